import Derived.Test.YtlddcjolelmpmaaGreatBt4
import Derived.Laws.Externs
import Derived.Lib.Builder
import Derived.Lib.UnsafeStr
import Derived.Shelf.RegionOpenPlain
import Derived.Shelf.Strings.Repeat
import Derived.Test.YtlddcjolelmpmaaGreatChecked
import Derived.WalkKit
set_option linter.unusedSimpArgs false
set_option linter.unusedVariables false
namespace Go.AW
open Go Go.Proofs
set_option maxHeartbeats 1600000
set_option maxRecDepth 100000
def valD (fp : HV) (E : List qaj) (a : Int) (x y : qaj) : Nat → HV
  | 0 | 6 => HV.fptr (match fp with | .fptr cs _ => cs | _ => []) 2
  | 1 | 7 => slE eFromLabelTo E
  | 2 | 8 => hI a
  | 3 => hI (IntKind.wrap .i64 (a - 1))
  | 4 => HV.fptr (eFromLabelTo.E E) ((IntKind.wrap .i64 (a - 1)).toNat * 3)
  | 5 => HV.agg [hI x.1, hI x.2.1, hI x.2.2]
  | 9 => HV.fptr (eFromLabelTo.E E) (a.toNat * 3)
  | _ => HV.agg [hI y.1, hI y.2.1, hI y.2.2]
abbrev zD : List HV := [hI 0, hI 0, hI 0]
structure InvD (fp : HV) (a : Int) (val : Nat → HV) (a5 a6 te : Nat) (c7 : List HV) (L : List Nat) (s : AS) : Prop where
  s1 : sget s.slots 1 = some fp
  s4 : sget s.slots 4 = some (hI a)
  val : ∀ k ∈ L, k < 11 → sget s.slots (17 + k) = some (val k)
  o5 : 11 ∈ L → ∃ v, sget s.slots 5 = some (HV.ptr a5 v 0) ∧ hget s.heap a5 = some (v, .arr 3 te (if 13 ∈ L then c7 else zD))
  o6 : 12 ∈ L → ∃ v, sget s.slots 6 = some (HV.ptr a6 v 0) ∧ hget s.heap a6 = some (v, .arr 3 te zD)
  d5 : 13 ∈ L → 11 ∈ L
section
variable {fp : HV} {a : Int} {val : Nat → HV} {a5 a6 te : Nat} {c7 : List HV} {L : List Nat} {sl : List (Nat × HV)} {H : Heap}
theorem mem_tl {i j : Nat} (h : i ∈ j :: L) (hne : i ≠ j) : i ∈ L := (List.mem_cons.1 h).resolve_left hne
theorem sget_ne {i j : Nat} {v : HV} (h : i ≠ j) : sget ((j, v) :: sl) i = sget sl i := by simp only [sget]; rw [if_neg h]
theorem sget_eq {j : Nat} {v : HV} : sget ((j, v) :: sl) j = some v := by simp only [sget, if_true]
theorem InvD.put (h : InvD fp a val a5 a6 te c7 L ⟨sl, H⟩) {i : Nat} (hi : i < 11) {hv : HV} (hv' : val i = hv) : InvD fp a val a5 a6 te c7 (i :: L) ⟨(17 + i, hv) :: sl, H⟩ where
  s1 := (sget_ne (by omega)).trans h.s1
  s4 := (sget_ne (by omega)).trans h.s4
  val := fun k hk hlt => by
    show sget ((17 + i, hv) :: sl) (17 + k) = _
    by_cases e : k = i
    · subst e; rw [sget_eq, hv']
    · exact (sget_ne (by omega)).trans (h.val k (mem_tl hk e) hlt)
  o5 := fun hm => by
    obtain ⟨v, h1, h2⟩ := h.o5 (mem_tl hm (by omega))
    refine ⟨v, (sget_ne (by omega)).trans h1, h2.trans ?_⟩
    have : (13 ∈ i :: L) ↔ 13 ∈ L := ⟨fun h => mem_tl h (by omega), List.mem_cons_of_mem _⟩
    simp only [this]
  o6 := fun hm => by
    obtain ⟨v, h1, h2⟩ := h.o6 (mem_tl hm (by omega))
    exact ⟨v, (sget_ne (by omega)).trans h1, h2⟩
  d5 := fun hm => List.mem_cons_of_mem _ (h.d5 (mem_tl hm (by omega)))
theorem InvD.al5 (h : InvD fp a val a5 a6 te c7 L ⟨sl, H⟩) (hq : 11 ∉ L) (hne : a6 ≠ a5) (v : Nat) : InvD fp a val a5 a6 te c7 (11 :: L) ⟨(5, .ptr a5 v 0) :: sl, (a5, v, .arr 3 te zD) :: H⟩ where
  s1 := (sget_ne (by decide)).trans h.s1
  s4 := (sget_ne (by decide)).trans h.s4
  val := fun k hk hlt => (sget_ne (by omega)).trans (h.val k (mem_tl hk (by omega)) hlt)
  o5 := fun _ => ⟨v, sget_eq, by
    have : ¬ 13 ∈ 11 :: L := fun hm => hq (h.d5 (mem_tl hm (by decide)))
    rw [if_neg this]
    exact qaX⟩
  o6 := fun hm => by
    obtain ⟨v', h1, h2⟩ := h.o6 (mem_tl hm (by decide))
    exact ⟨v', (sget_ne (by decide)).trans h1, (qax hne).trans h2⟩
  d5 := fun _ => List.mem_cons_self ..
theorem InvD.al6 (h : InvD fp a val a5 a6 te c7 L ⟨sl, H⟩) (hq : 12 ∉ L) (hne : a5 ≠ a6) (v : Nat) : InvD fp a val a5 a6 te c7 (12 :: L) ⟨(6, .ptr a6 v 0) :: sl, (a6, v, .arr 3 te zD) :: H⟩ where
  s1 := (sget_ne (by decide)).trans h.s1
  s4 := (sget_ne (by decide)).trans h.s4
  val := fun k hk hlt => (sget_ne (by omega)).trans (h.val k (mem_tl hk (by omega)) hlt)
  o5 := fun hm => by
    obtain ⟨v', h1, h2⟩ := h.o5 (mem_tl hm (by decide))
    refine ⟨v', (sget_ne (by decide)).trans h1, ((qax hne).trans h2).trans ?_⟩
    have : (13 ∈ 12 :: L) ↔ 13 ∈ L := ⟨fun h => mem_tl h (by decide), List.mem_cons_of_mem _⟩
    simp only [this]
  o6 := fun _ => ⟨v, sget_eq, qaX⟩
  d5 := fun hm => List.mem_cons_of_mem _ (h.d5 (mem_tl hm (by decide)))
theorem InvD.st5 (h : InvD fp a val a5 a6 te c7 L ⟨sl, H⟩) (hq : 11 ∈ L) {v : Nat} (hs : sget sl 5 = some (HV.ptr a5 v 0)) (hne : a6 ≠ a5) : InvD fp a val a5 a6 te c7 (13 :: L) ⟨sl, (a5, v, .arr 3 te c7) :: H⟩ where
  s1 := h.s1
  s4 := h.s4
  val := fun k hk hlt => h.val k (mem_tl hk (by omega)) hlt
  o5 := fun _ => ⟨v, hs, by rw [if_pos (List.mem_cons_self ..)]; exact qaX⟩
  o6 := fun hm => by
    obtain ⟨v', h1, h2⟩ := h.o6 (mem_tl hm (by decide))
    exact ⟨v', h1, (qax hne).trans h2⟩
  d5 := fun _ => List.mem_cons_of_mem _ hq
end
theorem w_graph_Deterministic {p0 : qaa} {r : Bool × Int} (h : qbr p0 = some r) : Pure Tryz.prog 94 [gA p0] (· = HV.tup [.bool r.1, hI r.2]) := by
 unfold qbr at h
 refine Pure.of_body Tryz.func94 rfl rfl (lb rfl) fun hf => ?_
 unfold Tryz.f94
 dsimp only [qaG, Nat.reduceAdd]
 refine AW.rgs rfl fun K hK => b_op rfl (o_box rfl rfl rfl ?_)
 refine mv rfl rfl (mv rfl rfl ?_)
 refine bf hK ⟨[(1, gF p0)], []⟩ ?_
 refine AW.seq ?_
 refine AW.rgs rfl fun K hK => bv rfl (qab ty27 rfl (qaz rfl (lb rfl) rfl)) ?_
 obtain ⟨x1, h2, h⟩ := bS h
 refine b_op rfl (qay rfl rfl rfl rfl (ACallD.pure0 (w_graph_Check h2)) ?_)
 refine bv rfl (qaf rfl rfl b_neq) ?_
 refine bf hK ⟨[(1, gF p0), (9, .bool (decide (x1 ≠ 0)))], []⟩ ?_
 refine AW.cond rfl (fun hc => ?_) (fun hc => ?_)
 ·obtain ⟨hc, h⟩ := cT hc h
  refine AW.rgs rfl fun K hK => mv rfl rfl (mv rfl rfl ?_)
  refine bf hK ⟨[(2, .bool false), (3, hI 1)], []⟩ ?_
  obtain rfl := oi h
  exact AW.ret (qac (.inr rfl) (resT rfl (resT rfl rfl)) rfl ⟨trivial, trivial, trivial⟩)
 obtain ⟨hc, h⟩ := cF hc h
 refine AW.skip ?_
 refine AW.seq ?_
 refine AW.rgs rfl fun K hK => mv rfl rfl ?_
 refine bf hK ⟨[(1, gF p0), (4, hI 1)], []⟩ ?_
 refine AW.lpR h (by first | exact qa5 | exact up_to) (S := Int) (V := Unit) (fun a v => ⟨[(1, gF p0), (4, hI a)], []⟩) ?_ (X := Unit) (W := Unit) (fun a v => ⟨[], []⟩) (fun a17 w18 h => ?_) (fun a3 w4 st5 h hr6=> ?_)
 ·exact to_L ⟨(), rfl⟩
 ·refine AW.rgs rfl fun K hK => mv rfl rfl (mv rfl rfl ?_)
  refine bf hK ⟨[(2, .bool true), (3, hI 0)], []⟩ ?_
  obtain rfl := oi h
  exact AW.ret (qac (.inr rfl) (resT rfl (resT rfl rfl)) rfl ⟨trivial, trivial, trivial⟩)
 refine AW.seq ?_
 refine AW.rgs rfl fun K hK => mv rfl rfl (bv rfl (qad fo27_2 rfl) (bv rfl (qab ty25 rfl (qam rfl rfl)) (bv rfl (qaI rfl rfl ty25 rfl) (bv rfl (qaf rfl rfl b_lss) ?_))))
 refine bf hK ⟨[(1, gF p0), (4, hI a3), (14, .bool (decide (a3 < ((p0.2.2).length : Int))))], []⟩ ?_
 refine AW.cond rfl (fun hc => ?_) (fun hc => ?_)
 ·obtain ⟨hc, h⟩ := cT hc h
  refine AW.skip ?_
  refine AW.seq (AW.block ?_)
  obtain ⟨x7, h8, h⟩ := bS h
  obtain ⟨x9, h10, h⟩ := bS h
  refine AW.dls follows fun K hK F hFF => ?_
  refine l_inv (F := F) hFF rfl 14 (by decide) rfl (fun L s => InvD (gF p0) a3 (valD (gF p0) p0.2.2 a3 x7 x9) 94005 94006 128 [hI x7.1, hI x7.2.1, hI x7.2.2] L s) ?stp ?fin 14 [] _ ⟨rfl, rfl, (fun _ h => by cases h), (fun h => by cases h), (fun h => by cases h), (fun h => by cases h)⟩ (fun k hk => by cases hk) List.nodup_nil rfl
  case stp =>
   rintro L ⟨sl, H⟩ q hJ hq hqL hdeps
   have h1 := hJ.s1
   have h4 := hJ.s4
   have val := hJ.val
   match q, hq with
   | 0, _ => exact l_op rfl rfl rfl (qai rfl (qad fo27_2 h1) (qah (hJ.put (by decide) rfl)))
   | 1, _ => exact l_op rfl rfl rfl (qai rfl (qab ty25 (val 0 (hdeps 0 (by decide)) (by decide)) (qam rfl rfl)) (qah (hJ.put (by decide) rfl)))
   | 2, _ => exact l_op rfl rfl rfl (qai rfl (qaR rfl (show (⟨sl, _⟩ : AS).ev (.tmp 4) = _ from h4)).2 (qah (hJ.put (by decide) rfl)))
   | 3, _ => exact l_op rfl rfl rfl (qai rfl (qaf (val 2 (hdeps 2 (by decide)) (by decide)) rfl b_sub) (qah (hJ.put (by decide) rfl)))
   | 4, _ => exact l_op rfl rfl rfl (qai rfl (qaW ty25 es25 (val 1 (hdeps 1 (by decide)) (by decide)) (val 3 (hdeps 3 (by decide)) (by decide)) (qaO h8)) (qah (hJ.put (by decide) rfl)))
   | 5, _ => exact l_op rfl rfl rfl (qai rfl (qab ty128 (val 4 (hdeps 4 (by decide)) (by decide)) (l_agg eFromLabelTo h8 rfl rfl)) (qah (hJ.put (by decide) rfl)))
   | 6, _ => exact l_op rfl rfl rfl (qai rfl (qad fo27_2 h1) (qah (hJ.put (by decide) rfl)))
   | 7, _ => exact l_op rfl rfl rfl (qai rfl (qab ty25 (val 6 (hdeps 6 (by decide)) (by decide)) (qam rfl rfl)) (qah (hJ.put (by decide) rfl)))
   | 8, _ => exact l_op rfl rfl rfl (qai rfl (qaR rfl (show (⟨sl, _⟩ : AS).ev (.tmp 4) = _ from h4)).2 (qah (hJ.put (by decide) rfl)))
   | 9, _ => exact l_op rfl rfl rfl (qai rfl (qaW ty25 es25 (val 7 (hdeps 7 (by decide)) (by decide)) (val 8 (hdeps 8 (by decide)) (by decide)) (qaO h10)) (qah (hJ.put (by decide) rfl)))
   | 10, _ => exact l_op rfl rfl rfl (qai rfl (qab ty128 (val 9 (hdeps 9 (by decide)) (by decide)) (l_agg eFromLabelTo h10 rfl rfl)) (qah (hJ.put (by decide) rfl)))
   | 11, _ => exact l_op rfl rfl rfl (qbj (fid := 94) (zs := [hI 0, hI 0, hI 0]) 94005 rfl rfl ty128 rfl (fun v => qah (hJ.al5 hqL (by decide) v)))
   | 12, _ => exact l_op rfl rfl rfl (qbj (fid := 94) (zs := [hI 0, hI 0, hI 0]) 94006 rfl rfl ty128 rfl (fun v => qah (hJ.al6 hqL (by decide) v)))
   | 13, _ =>
    obtain ⟨v5, s5, g5⟩ := hJ.o5 (hdeps 11 (by decide))
    rw [if_neg hqL] at g5
    exact l_op rfl rfl rfl (qaH (cs := [hI x7.1, hI x7.2.1, hI x7.2.2]) (zs := [hI x7.1, hI x7.2.1, hI x7.2.2]) rfl s5 (val 5 (hdeps 5 (by decide)) (by decide)) ty128 rfl g5 rfl rfl rfl (qah (hJ.st5 (hdeps 11 (by decide)) s5 (by decide))))
   | n + 14, h => exact absurd h (by omega)
  rintro L ⟨sl, H⟩ hJ hall
  have hin : ∀ q, q < 14 → q ∈ L := fun q hq => (hall q).1 hq
  obtain ⟨v11, s5, g5⟩ := hJ.o5 (hin 11 (by decide))
  obtain ⟨v12, s6, g6⟩ := hJ.o6 (hin 12 (by decide))
  rw [if_pos (hin 13 (by decide))] at g5
  refine l_go (L' := List.range 14) (s' := ⟨[(1, (gF p0)), (4, hI a3), (5, .ptr 94005 v11 0), (6, .ptr 94006 v12 0), (27, .agg [hI x9.1, hI x9.2.1, hI x9.2.2])], [(94005, v11, .arr 3 128 [hI x7.1, hI x7.2.1, hI x7.2.2]), (94006, v12, .arr 3 128 [hI 0, hI 0, hI 0])]⟩) hFF (all_range hall) ?_ ⟨qaL ⟨hJ.s1, hJ.s4, s5, s6, hJ.val 10 (hin 10 (by decide)) (by decide), trivial⟩, leH_get ⟨g5, g6, trivial⟩⟩
  clear g5 g6 s5 s6 hin hall hJ H sl L
  refine l_step hFF rfl [14] rfl rfl ⟨?_, trivial⟩
  refine l_op rfl rfl rfl (qaH (cs := [hI x9.1, hI x9.2.1, hI x9.2.2]) (zs := [hI x9.1, hI x9.2.1, hI x9.2.2]) rfl rfl rfl ty128 rfl rfl rfl rfl rfl (qah ?_))
  refine l_go (L' := List.range 15) (s' := ⟨[(1, gF p0), (4, hI a3), (5, .ptr 94005 v11 0), (6, .ptr 94006 v12 0)], [(94005, v11, .arr 3 128 [hI x7.1, hI x7.2.1, hI x7.2.2]), (94006, v12, .arr 3 128 [hI x9.1, hI x9.2.1, hI x9.2.2])]⟩) hFF rfl ?_ ⟨qaL ⟨rfl, rfl, rfl, rfl, trivial⟩, leH_get ⟨rfl, rfl, trivial⟩⟩
  refine l_done hFF rfl rfl (hK _ ?_)
  clear hFF F
  refine AW.seqJ h (S := Bool) (V := Unit) (fun a v => ⟨[(1, gF p0), (4, hI a3), (39, .bool a)], []⟩) (fun a13 w14 h => ?_) (fun k15 h => ?_)
  ·refine AW.cond rfl (fun hc => ?_) (fun hc => ?_)
   ·have h := ifT hc h
    refine AW.rgs rfl fun K hK => mv rfl rfl (mv rfl rfl ?_)
    refine bf hK ⟨[(2, .bool false), (3, hI 0)], []⟩ ?_
    have h := hr6 _ h
    obtain rfl := oi h
    exact AW.ret (qac (.inr rfl) (resT rfl (resT rfl rfl)) rfl ⟨trivial, trivial, trivial⟩)
   have h := ifF (bF' hc) h
   refine AW.skip ?_
   refine AW.rg rfl fun K hK => mv rfl rfl (bv rfl (qaf rfl rfl b_add) (mv rfl rfl ?_))
   refine qah (hK _ ?_)
   exact to_L ⟨IntKind.wrap .i64 (a3 + 1), (), h, rfl⟩
  refine AW.rg rfl fun K hK => bv rfl (qar fo128_0 rfl rfl) (bv rfl (qas ty3 rfl rfl (qam rfl rfl)) (bv rfl (qar fo128_0 rfl rfl) (bv rfl (qas ty3 rfl rfl (qam rfl rfl)) (bv rfl (qaf rfl rfl b_eql) (mv rfl rfl ?_)))))
  by_cases hg16 : x7.1 = x9.1
  ·have h := ifT hg16 h
   refine b_T rfl rfl rfl rfl (decide_eq_true hg16) (qai rfl (qar fo128_1 rfl rfl) ?_)
   refine b_T rfl rfl rfl rfl rfl (qai rfl (qas ty3 rfl rfl (qam rfl rfl)) ?_)
   refine b_T rfl rfl rfl rfl rfl (qai rfl (qar fo128_1 rfl rfl) ?_)
   refine b_T rfl rfl rfl rfl rfl (qai rfl (qas ty3 rfl rfl (qam rfl rfl)) ?_)
   refine b_T rfl rfl rfl rfl rfl (qai rfl (qaf rfl rfl b_eql) ?_)
   refine bv rfl (qak rfl rfl rfl) ?_
   refine qah (hK _ ?_)
   exact to_L ⟨decide (x7.2.1 = x9.2.1), (), h, rfl⟩
  have h := ifF hg16 h
  refine b_F rfl rfl rfl rfl rfl (decide_eq_false hg16) ?_
  iterate 4 refine b_F rfl rfl rfl rfl rfl rfl ?_
  refine bv rfl (qan rfl rfl rfl) ?_
  refine qah (hK _ ?_)
  exact to_L ⟨false, (), h, rfl⟩
 obtain ⟨hc, h⟩ := cF hc h
 refine AW.exit ?_
 exact to_L ⟨(), (), h, rfl⟩
end Go.AW
namespace Go.AW
open Go
section
variable {w : World} {μ μ' : Mu}
structure Near (μ μ' : Mu) : Prop where
 live : ∀ id ver b, μ.loc id = some (ver, b) → μ'.loc id = some (ver, b) ∨ μ'.dead id ver
 dead : ∀ id ver, μ.dead id ver → μ'.dead id ver
 owns : ∀ b, ¬ μ.owns b → ¬ μ'.owns b
 back : ∀ id ver b, μ'.loc id = some (ver, b) → ver < μ.nx → μ.loc id = some (ver, b)
 nx : μ.nx ≤ μ'.nx
mutual
theorem Rep.near (N : Near μ μ') : ∀ (hv : HV) (val : Value), Rep w μ hv val → Rep w μ' hv val
 | .int _ _, _, h => h
 | .bool _, _, h => h
 | .str _, _, h => h
 | .v _, _, h => h
 | .agg cs, _, ⟨h1, vs, e, h⟩ => ⟨h1, vs, e, RepL.near N cs vs h⟩
 | .tup cs, _, ⟨vs, e, h⟩ => ⟨vs, e, RepL.near N cs vs h⟩
 | .sl _ _ cs, _, ⟨h1, hl, hm, h⟩ => ⟨h1, hl, hm, h.imp id fun ⟨b, off, cap, vs, e, hn, ho, hs, hr⟩ => ⟨b, off, cap, vs, e, hn, N.owns b ho, hs, RepL.near N cs vs hr⟩⟩
 | .ar id ver k off n, val, h => by
  rcases h with ⟨l, hl, h⟩ | ⟨hd, h⟩
  ·rcases N.live id ver l hl with hl' | hd
   ·exact .inl ⟨l, hl', h⟩
   ·refine .inr ⟨hd, ?_⟩
    rcases h with ⟨_, rfl, _⟩ | ⟨b, cap, cur, e, rfl, rfl, _⟩
    ·exact ⟨_, _, _, rfl⟩
    ·exact ⟨_, _, _, rfl⟩
  ·exact .inr ⟨N.dead _ _ hd, h⟩
 | .ptr id ver off, val, h => by
  rcases h with ⟨b, hl, rfl⟩ | ⟨hd, h⟩
  ·rcases N.live id ver _ hl with hl' | hd
   ·exact .inl ⟨b, hl', rfl⟩
   ·exact .inr ⟨hd, _, rfl⟩
  ·exact .inr ⟨N.dead _ _ hd, h⟩
 | .fptr cs _, _, ⟨h1, b, base, vs, e, ho, hs, hr⟩ => ⟨h1, b, base, vs, e, N.owns b ho, hs, RepL.near N cs vs hr⟩
 | .fn _ fs cs, _, ⟨us, vs, e, h1, h2⟩ => ⟨us, vs, e, RepL.near N fs us h1, RepL.near N cs vs h2⟩
 | .mp id ver, val, h => by
  rcases h with ⟨b, hl, rfl⟩ | ⟨hd, h⟩
  ·rcases N.live id ver _ hl with hl' | hd
   ·exact .inl ⟨b, hl', rfl⟩
   ·exact .inr ⟨hd, _, rfl⟩
  ·exact .inr ⟨N.dead _ _ hd, h⟩
 | .yl id ver, val, h => by
  rcases h with ⟨b, hl, rfl⟩ | ⟨hd, h⟩
  ·rcases N.live id ver _ hl with hl' | hd
   ·exact .inl ⟨b, hl', rfl⟩
   ·exact .inr ⟨hd, _, rfl⟩
  ·exact .inr ⟨N.dead _ _ hd, h⟩
 | .it id ver, val, h => by
  rcases h with ⟨b, hl, rfl⟩ | ⟨hd, h⟩
  ·rcases N.live id ver _ hl with hl' | hd
   ·exact .inl ⟨b, hl', rfl⟩
   ·exact .inr ⟨hd, _, rfl⟩
  ·exact .inr ⟨N.dead _ _ hd, h⟩
theorem RepL.near (N : Near μ μ') : ∀ (cs : List HV) (vs : List Value), RepL w μ cs vs → RepL w μ' cs vs
 | [], _, h => h
 | c :: cs, _, ⟨x, xs, e, h1, h2⟩ => ⟨x, xs, e, Rep.near N c x h1, RepL.near N cs xs h2⟩
end
theorem OR.near (N : Near μ μ') {o : AObj} {l : Option Nat} (h : OR w μ o l) : OR w μ' o l := by
 cases l with
 | none => cases o <;> exact h
 | some b =>
  cases o with
  | arr k e cs =>
   obtain ⟨h0, cur, vs, rest, h1, h2, h3⟩ := h
   exact ⟨h0, cur, vs, rest, h1, h2, RepL.near N _ _ h3⟩
  | map es =>
   obtain ⟨ents, clock, h1, h2, h3, h4, h5⟩ := h
   exact ⟨ents, clock, h1, h2, RepL.near N _ _ h3, h4, h5⟩
  | iter mid mver seen cur =>
   obtain ⟨h0, mb, since, sn, last, h1, h2⟩ := h
   exact ⟨Nat.lt_of_lt_of_le h0 N.nx, mb, since, sn, last, h1, fun l hl' => h2 l (N.back _ _ _ hl' h0)⟩
  | loop st pend f n snap ps assign body =>
   obtain ⟨tmps, dfr, h1, h2, h3⟩ := h
   exact ⟨tmps, dfr, h1, h2, fun t hv ht => ⟨(h3 t hv ht).1, Rep.near N _ _ (h3 t hv ht).2⟩⟩
  | kmap es => exact h
end
section
variable {P : Program} {ro : Option Nat} {N : Nat}
theorem AOp.yieldH {o : Oper} {K : AS → Prop} {c : Call} {g : Operand} {id ver : Nat} {hs : List HV} {sl : List (Nat × HV)} {H : Heap} {t iO v k n : Nat} {e : TypeId} {cs : List HV} (hop : o.op = .call c) (hc : c.callee = .value g) (hN : okd N o.dst = true)
  (hg : (⟨sl, (iO, v, .arr k e cs) :: H⟩ : AS).ev g = some (.yl id ver)) (ha : c.args.toList.mapM (⟨sl, (iO, v, .arr k e cs) :: H⟩ : AS).ev = some hs) (ht : sget sl t = some (.ar iO v k 0 n)) (hf : hget H iO = none)
  (h : YCall P id ver hs H fun r H' => ∀ iN v2, hget H' iN = none → K (({ slots := sset sl t (.ar iN v2 k 0 n), heap := (iN, v2, .arr k e cs) :: H' } : AS).put o.dst r)) : AOp P ro N o K ⟨sl, (iO, v, .arr k e cs) :: H⟩ := by
 intro w0 μ0 μ a w next Q hsr hE hK
 refine ⟨fun f _ => trivial, ?_⟩
 rw [Oper.semAt_eq _ _ _ (fun c e => by rw [hop] at e; cases e)]
 obtain ⟨f, n', snap, ps, assign, body, hgl, hps, hpn, hround⟩ := h
 have hlt : ∀ {j x}, hget H j = some x → hget ((iO, v, .arr k e cs) :: H) j = some x := fun {j x} hx => le_fresh hf j x hx
 obtain ⟨l1, hl1, hor1⟩ := hsr.sr.has iO v _ qaX
 -- the one that owns less
 let μc : Mu := { nx := μ.nx, loc := fun i => if i = iO then none else μ.loc i, held := fun b => μ.held b ∨ l1 = some b }
 have hcl : ∀ {i x}, μc.loc i = some x → i ≠ iO ∧ μ.loc i = some x := fun {i x} hx => by
  simp only [μc] at hx
  split at hx
  ·cases hx
  ·exact ⟨by assumption, hx⟩
 have hcl' : ∀ {i x}, i ≠ iO → μ.loc i = some x → μc.loc i = some x := fun {i x} hi hx => by
  simp only [μc]
  rw [if_neg hi]
  exact hx
 have hco : ∀ b, μc.owned b → μ.owned b := fun b ⟨i, u, hx⟩ => ⟨i, u, (hcl hx).2⟩
 have hcw : ∀ b, μc.owns b → μ.owns b := fun b hb => by
  rcases hb with hb | hb | hb
  ·exact .inl (hco b hb)
  ·exact .inr hb
  ·exact .inl ⟨iO, v, by rw [hl1, hb]⟩
 have hnear : Near μ μc := by
  refine ⟨fun i u b hx => ?_, fun i u ⟨h1, h2⟩ => ⟨h1, fun b hx => h2 b (hcl hx).2⟩, fun b hb hx => hb (hcw b hx), fun i u b hx _ => (hcl hx).2, Nat.le_refl _⟩
  by_cases ei : i = iO
  ·refine .inr ⟨hsr.sr.ok i u b hx, fun b' hx' => (hcl hx').1 ei⟩
  ·exact .inl (hcl' ei hx)
 have hsc : SR w μc H := by
  refine ⟨fun i u b hx => hsr.sr.ok i u b (hcl hx).2, fun i u o ho => ?_, fun i x hx => ?_, fun i j u u' b h1 h2 => hsr.sr.inj i j u u' b (hcl h1).2 (hcl h2).2, fun b hb => ?_⟩
  ·obtain ⟨l, hl, hor⟩ := hsr.sr.has i u o (hlt ho)
   have ei : i ≠ iO := fun ei => by subst ei; rw [hf] at ho; cases ho
   exact ⟨l, hcl' ei hl, OR.near hnear hor⟩
  ·obtain ⟨ei, hx⟩ := hcl hx
   obtain ⟨y, hy⟩ := hsr.sr.only i x hx
   rw [qax ei] at hy
   exact ⟨y, hy⟩
  ·rcases hb with hb | hb
   ·exact ⟨(hsr.sr.held b hb).1, fun ho => (hsr.sr.held b hb).2 (hco b ho)⟩
   ·subst hb
    refine ⟨hsr.sr.blk hl1, fun ⟨i, u, hx⟩ => ?_⟩
    obtain ⟨ei, hx⟩ := hcl hx
    exact ei (hsr.sr.inj i iO u v b hx hl1)
 have hvs0 := mapM_ev hsr ha
 have hvs : RepL w μc hs (c.args.toList.map a.eval) := RepL.near hnear _ _ hvs0
 obtain ⟨l0, hl0, hor0⟩ := hsc.has id ver _ hgl
 have hlive : ∃ l, μc.loc id = some (ver, some l) ∧ a.eval g = .func (.yield l) #[] #[] := by
  rcases Rep.near hnear _ _ (hsr.ev hg) with ⟨b, hb, hv⟩ | ⟨hd, _⟩
  ·exact ⟨b, hb, hv⟩
  ·exact absurd hl0 (hd.2 l0)
 obtain ⟨l, hl, hv⟩ := hlive
 rw [hl] at hl0
 cases hl0
 obtain ⟨tmps, dfr, hb, hz, hsn⟩ := hor0
 have hvl := hvs.length
 have hrun : (execOp a.eval o).run P w = .ok (.round l f ((ps.zip (c.args.map a.eval)).foldl (fun tmps (x : Tmp × Value) => tmps.setIfInBounds x.1 x.2) tmps) assign body) w := by
  have hlen : c.args.size = ps.size := by
   have h1 : hs.length = (c.args.toList.map a.eval).length := hvl.symm
   simp only [List.length_map, Array.length_toList] at h1
   omega
  simp [execOp, hop, resolve, hc, hv, Deferred.ofValue, invoke, Instr.yield, run_getLoop hb, hlen, Result.andThen]
 rw [hrun]
 refine ⟨fun hd => absurd (fence_depth ro hd) (by omega), ?_⟩
 obtain ⟨hsz, hslot⟩ := setPs_rep ps.toList hs (c.args.toList.map a.eval) snap tmps n' (by simpa using hps) hpn hz hvs hsn
 have htm : (ps.zip (c.args.map a.eval)).foldl (fun tmps (x : Tmp × Value) => tmps.setIfInBounds x.1 x.2) tmps = (ps.toList.zip (c.args.toList.map a.eval)).foldl (fun tmps (x : Tmp × Value) => tmps.setIfInBounds x.1 x.2) tmps := by
  rw [← Array.foldl_toList]
  simp
 rw [htm]
 have hroc : RoOk ro w μc := fun g hg => ⟨(hsr.ro g hg).1, fun ho => (hsr.ro g hg).2 (hco g ho)⟩
 have hs0 : SRel (some l) n' w.heap.size μc { slots := setPs snap ps.toList hs, heap := H } { tmps := (ps.toList.zip (c.args.toList.map a.eval)).foldl (fun tmps (x : Tmp × Value) => tmps.setIfInBounds x.1 x.2) tmps, defers := [] } w :=
  ⟨hsz, hsc, hslot, Marks.nil _ _ _, hroc⟩
 -- what follows when the round is over
 have fin : ∀ (w4 : World) (μ3 : Mu) (H3 : Heap) (r : HV) (rv : Value), SR w4 μ3 H3 → Evo w μc w4 μ3 → (∀ μ, Rep w4 μ r rv) → (∀ iN v2, hget H3 iN = none → K (({ slots := sset sl t (.ar iN v2 k 0 n), heap := (iN, v2, .arr k e cs) :: H3 } : AS).put o.dst r)) → next (a.put o.dst rv) w4 := by
  intro w4 μ3 H3 r rv hs3 E hr hq
  have hfr := freshH_none H3
  generalize freshH H3 = iN at hfr
  have hN3 : μ3.loc iN = none := by
   cases hx : μ3.loc iN with
   | none => rfl
   | some x =>
    obtain ⟨y, hy⟩ := hs3.only iN x hx
    rw [hfr] at hy
    cases hy
  let μ2 : Mu := { nx := μ3.nx + 1, loc := fun i => if i = iN then some (μ3.nx, l1) else μ3.loc i, held := μ.held }
  have h2N : μ2.loc iN = some (μ3.nx, l1) := if_pos rfl
  have h2o : ∀ {i}, i ≠ iN → μ2.loc i = μ3.loc i := fun {i} hi => if_neg hi
  have hheld : ∀ b, μ3.held b ↔ μ.held b ∨ l1 = some b := fun b => by
   have := E.held
   rw [this]
  have hown2 : ∀ b, μ2.owned b → μ3.owned b ∨ l1 = some b := fun b ⟨i, u, hx⟩ => by
   by_cases ei : i = iN
   ·subst ei; rw [h2N] at hx; cases hx; exact .inr rfl
   ·rw [h2o ei] at hx; exact .inl ⟨i, u, hx⟩
  have hown3 : ∀ b, μ3.owned b → μ2.owned b := fun b ⟨i, u, hx⟩ => by
   have ei : i ≠ iN := fun ei => by subst ei; rw [hN3] at hx; cases hx
   exact ⟨i, u, by rw [h2o ei]; exact hx⟩
  have hmu3 : ∀ b, l1 = some b → ¬ μ3.owned b := fun b hb ho => (hs3.held b ((hheld b).2 (.inr hb))).2 ho
  have hnear2 : Near μ3 μ2 := by
   refine ⟨fun i u b hx => .inl ?_, fun i u ⟨h1, h2⟩ => ⟨Nat.lt_succ_of_lt h1, fun b hx => ?_⟩, fun b hb hx => hb ?_, fun i u b hx hlt' => ?_, Nat.le_succ _⟩
   ·have ei : i ≠ iN := fun ei => by subst ei; rw [hN3] at hx; cases hx
    rw [h2o ei]; exact hx
   ·by_cases ei : i = iN
    ·subst ei; rw [h2N] at hx; cases hx; omega
    ·rw [h2o ei] at hx; exact h2 b hx
   ·rcases hx with hx | hx
    ·rcases hown2 b hx with h | h
     ·exact .inl h
     ·exact .inr ((hheld b).2 (.inr h))
    ·exact .inr ((hheld b).2 (.inl hx))
   ·by_cases ei : i = iN
    ·subst ei; rw [h2N] at hx; cases hx; omega
    ·rw [h2o ei] at hx; exact hx
  have hnx : μ.nx ≤ μ3.nx := E.nx
  have E2 : Evo w μ w4 μ2 := by
   refine ⟨E.os, E.tape, E.output, E.size, Nat.le_succ_of_le hnx, fun b hb ho => E.keep b hb fun hc => ho (hco b hc), fun i u b hx hlt' => ?_, fun i u b hx hlt' cur e' hr' => ?_, fun i u b hx hb => ?_, rfl⟩
   ·by_cases ei : i = iN
    ·subst ei; rw [h2N] at hx; cases hx; omega
    ·rw [h2o ei] at hx; exact (hcl (E.loc i u b hx hlt')).2
   ·by_cases ei : i = iN
    ·subst ei; rw [h2N] at hx; cases hx; omega
    ·rw [h2o ei] at hx; exact E.row i u b hx hlt' cur e' hr'
   ·by_cases ei : i = iN
    ·subst ei; rw [h2N] at hx; cases hx; exact ⟨iO, v, hl1⟩
    ·rw [h2o ei] at hx; exact hco b (E.own i u b hx hb)
  have hor4 : OR w4 μ2 (.arr k e cs) l1 := by
   cases l1 with
   | none => exact hor1
   | some b1 =>
    obtain ⟨h0, cur, vs, rest, ⟨lo, hi, h1, h1'⟩, h2, h3⟩ := hor1
    have hb1 := hsr.sr.blk hl1
    have hk := E.keep b1 hb1 fun ⟨i, u, hx⟩ => by
     obtain ⟨ei, hx⟩ := hcl hx
     exact ei (hsr.sr.inj i iO u v b1 hx hl1)
    exact ⟨h0, cur, vs, rest, ⟨lo, hi, hk.trans h1, h1'⟩, h2, RepL.evo E2 hsr.sr.ok _ _ h3⟩
  have hs2 : SR w4 μ2 ((iN, μ3.nx, .arr k e cs) :: H3) := by
   refine ⟨fun i u b hx => ?_, fun i u o ho => ?_, fun i x hx => ?_, fun i j u u' b h1 h2 => ?_, fun b hb => ?_⟩
   ·by_cases ei : i = iN
    ·subst ei; rw [h2N] at hx; cases hx; exact Nat.lt_succ_self _
    ·rw [h2o ei] at hx; exact Nat.lt_succ_of_lt (hs3.ok i u b hx)
   ·by_cases ei : i = iN
    ·subst ei; rw [qaX] at ho; cases ho; exact ⟨l1, h2N, hor4⟩
    ·rw [qax ei] at ho
     obtain ⟨l', hl', hor'⟩ := hs3.has i u o ho
     exact ⟨l', by rw [h2o ei]; exact hl', OR.near hnear2 hor'⟩
   ·by_cases ei : i = iN
    ·subst ei; exact ⟨_, qaX⟩
    ·rw [h2o ei] at hx
     obtain ⟨y, hy⟩ := hs3.only i x hx
     exact ⟨y, by rw [qax ei]; exact hy⟩
   ·by_cases ei : i = iN
    ·subst ei
     rw [h2N] at h1
     cases h1
     by_cases ej : j = i
     ·exact ej.symm
     ·rw [h2o ej] at h2
      exact absurd ⟨j, u', h2⟩ (hmu3 b rfl)
    ·rw [h2o ei] at h1
     by_cases ej : j = iN
     ·subst ej
      rw [h2N] at h2
      cases h2
      exact absurd ⟨i, u, h1⟩ (hmu3 b rfl)
     ·rw [h2o ej] at h2
      exact hs3.inj i j u u' b h1 h2
   ·obtain ⟨hb1, hb2⟩ := hs3.held b ((hheld b).2 (.inl hb))
    refine ⟨hb1, fun ho => ?_⟩
    rcases hown2 b ho with h | h
    ·exact hb2 h
    ·exact (hsr.sr.held b hb).2 ⟨iO, v, by rw [hl1, h]⟩
  have hsr2 : SRel ro N w0.heap.size μ2 ⟨sset sl t (.ar iN μ3.nx k 0 n), (iN, μ3.nx, .arr k e cs) :: H3⟩ a w4 := by
   refine ⟨hsr.size, hs2, fun t' hv' ht' => ?_, hsr.marks.evo E2, hsr.ro.evo E2⟩
   simp only [sget_sset] at ht'
   split at ht'
   ·rename_i e'
    subst e'
    cases ht'
    obtain ⟨hlt', hrep⟩ := hsr.slot _ _ ht
    refine ⟨hlt', ?_⟩
    rcases hrep with ⟨l', hl', hrep⟩ | ⟨hd, _⟩
    ·rw [hl1] at hl'
     cases hl'
     refine .inl ⟨l1, h2N, ?_⟩
     rcases hrep with hrep | ⟨b, cap, cur, e', hb', hv', hn', hc', ⟨lo, hi, h1, h1'⟩, hsz'⟩
     ·exact .inl hrep
     ·subst hb'
      have hb1 := hsr.sr.blk hl1
      have hk := E.keep b hb1 fun ⟨i, u, hx⟩ => by
       obtain ⟨ei, hx⟩ := hcl hx
       exact ei (hsr.sr.inj i iO u v b hx hl1)
      exact .inr ⟨b, cap, cur, e', rfl, hv', hn', hc', ⟨lo, hi, hk.trans h1, h1'⟩, hsz'⟩
    ·exact absurd hl1 (hd.2 _)
   ·obtain ⟨hlt', hrep⟩ := hsr.slot t' hv' ht'
    exact ⟨hlt', Rep.evo E2 hsr.sr.ok _ _ hrep⟩
  exact hK μ2 _ _ _ (hq iN μ3.nx hfr) (hsr2.put (Evo.refl w4 μ2) hs2 hN (hr μ2)) (hE.trans E2)
 refine RoundIn.mono (R := fun e w2 => match e with
  | .returned v => next (a.put o.dst v) w2
  | _ => False) (roundIn_of_wpIn (F := fence ro) trivial ?_) ?_
 ·refine wpIn_mono (hround l w μc μc _ w hs0 (Evo.refl w μc)) ?_
  rintro e1 a1 w1 ⟨_, _, μ1, s1, ⟨rfl, hg1, hbody⟩, hs1, E1⟩
  have hl1' : μ1.loc id = some (ver, some l) := by
   obtain ⟨l1, hl1, _⟩ := hs1.sr.has id ver _ hg1
   have := E1.loc id ver l1 hl1 (hsc.ok _ _ _ hl)
   rw [hl] at this
   cases this
   exact hl1
  obtain ⟨t1, d1, hb1, hz1, hsn1, hsr2, E2⟩ := hs1.sr.updLoop (st' := .busy) (pend' := none) hg1 hl1'
  refine ⟨_, by simp [Instr.beginRound, run_getLoop hb1, run_setLoop hb1, Result.andThen]; rfl, ?_⟩
  have hs2 := hs1.heap E2 hsr2
  refine wpIn_mono (hbody w μc μ1 a1 _ hs2 (E1.trans E2)) ?_
  rintro e3 a3 w3 ⟨_, _, μ3, s3, ⟨hg3, hq3⟩, hs3, E3⟩
  have hl3 : μ3.loc id = some (ver, some l) := by
   obtain ⟨l3, hl3, _⟩ := hs3.sr.has id ver _ hg3
   have := E3.loc id ver l3 hl3 (hsc.ok _ _ _ hl)
   rw [hl] at this
   cases this
   exact hl3
  cases e3 with
  | normal =>
   obtain ⟨t4, d4, hb4, hz4, hsn4, hsr4, E4⟩ := hs3.sr.updLoop (st' := .ready) (pend' := none) hg3 hl3
   refine ⟨.bool true, _, by simp [Instr.endRound, run_getLoop hb4, run_setLoop hb4, Result.andThen]; rfl, ?_⟩
   exact fin _ _ _ (.bool true) (.bool true) hsr4 (E3.trans E4) (fun _ => rfl) hq3
  | ret =>
   obtain ⟨t4, d4, hb4, hz4, hsn4, hsr4, E4⟩ := hs3.sr.updLoop (st' := .done) (pend' := some .ret) hg3 hl3
   refine ⟨.bool false, _, by simp [Instr.endRound, run_getLoop hb4, run_setLoop hb4, Result.andThen]; rfl, ?_⟩
   exact fin _ _ _ (.bool false) (.bool false) hsr4 (E3.trans E4) (fun _ => rfl) hq3
  | exit i =>
   obtain ⟨t4, d4, hb4, hz4, hsn4, hsr4, E4⟩ := hs3.sr.updLoop (st' := .done) (pend' := some (.exit i)) hg3 hl3
   refine ⟨.bool false, _, by simp [Instr.endRound, run_getLoop hb4, run_setLoop hb4, Result.andThen]; rfl, ?_⟩
   exact fin _ _ _ (.bool false) (.bool false) hsr4 (E3.trans E4) (fun _ => rfl) hq3
  | goto l => exact hq3.elim
  | panic ch => exact hq3.elim
  | outgrown => exact hq3.elim
 ·intro e w2 he
  cases e with
  | returned v => exact he
  | _ => exact he.elim
end
end Go.AW
namespace Go.AW
open Go
theorem b_yieldH {P : Program} {ro : Option Nat} {N : Nat} {o : Oper} {all : Array Oper} {rest : List Oper} {K : AS → Prop} {d : Nat} {aa : Array Operand} {ts : Array TypeId} {f : Operand} {id ver : Nat} {hs : List HV} {sl : List (Nat × HV)} {H : Heap} {t iO v k n : Nat} {e : TypeId} {cs : List HV}
  (h0 : (o.guard, o.dst, o.op) = (none, some d, .call ⟨.value f, aa, ts⟩)) (hf : (⟨sl, (iO, v, .arr k e cs) :: H⟩ : AS).ev f = some (.yl id ver)) (ha : aa.toList.mapM (⟨sl, (iO, v, .arr k e cs) :: H⟩ : AS).ev = some hs) (ht : sget sl t = some (.ar iO v k 0 n)) (hO : hget H iO = none)
  (h : YCall P id ver hs H fun r H' => ∀ iN v2, hget H' iN = none → bops P ro N all rest K ⟨(d, r) :: sset sl t (.ar iN v2 k 0 n), (iN, v2, .arr k e cs) :: H'⟩) : bops P ro N all (o :: rest) K ⟨sl, (iO, v, .arr k e cs) :: H⟩ := by
 obtain ⟨e1, h0⟩ := Prod.mk.inj h0
 obtain ⟨e2, e3⟩ := Prod.mk.inj h0
 refine b_opX e1 fun hN => AOp.yieldH (t := t) (n := n) e3 rfl hN hf ha ht hO (h.mono fun r H' hk iN v2 hi => ?_)
 rw [e2]
 exact qbs (put_le (s := ⟨sset sl t (.ar iN v2 k 0 n), (iN, v2, .arr k e cs) :: H'⟩) d r) (hk iN v2 hi)
end Go.AW
namespace Go.AW
open Go Go.Proofs
abbrev oTx (l : List (List UInt8)) : AObj := .arr 1 9 (eStr.E l)
set_option maxHeartbeats 8000000 in
set_option maxRecDepth 100000 in
theorem iy_merging_taken {all : List (List UInt8)} {p0 : qaa} {ms L : List (List UInt8)} (h : y_merging_taken all p0 ms = some L) : Yields Tryz.prog 147 [] [HV.fptr [slE eStr all] 0, HV.fptr [HV.int .i64 p0.1, HV.int .i64 p0.2.1, slE eFromLabelTo p0.2.2] 0, HV.fptr [slE eStr ms] 0] (L.map fun x => [HV.str x]) := by
 unfold y_merging_taken at h
 split at h
 case isFalse => cases h
 rename_i hal
 intro id ver H J Stop K hmn h0 hstep hdone hstop
 refine ACall.of_body Tryz.func147 rfl rfl (Nat.le_of_ble_eq_true rfl) ?_
 unfold Tryz.f147
 dsimp only [qaG, Nat.reduceAdd]
 generalize hFA : HV.fptr [slE eStr all] 0 = FA
 generalize hFM : HV.fptr [slE eStr ms] 0 = FM
 generalize hFG : HV.fptr [HV.int .i64 p0.1, HV.int .i64 p0.2.1, slE eFromLabelTo p0.2.2] 0 = FG
 refine AW.rgs rfl fun K1 hK => ?_
 refine mv rfl rfl ?_
 refine qah (hK _ (AW.to (qbd (s' := ⟨[(0, .yl id ver), (1, FA), (2, FG), (3, FM), (5, HV.v (.slice none 0 0))], H⟩) (le_slH ⟨rfl, rfl, rfl, rfl, rfl, trivial⟩) ?_)))
 clear hK K1
 refine AW.rgs rfl fun K1 hK => ?_
 refine bv rfl (qab ty22 (by rw [← hFA]; rfl) (qam rfl rfl)) ?_
 refine bv rfl (qaI rfl rfl ty22 rfl) ?_
 refine mv rfl rfl ?_
 refine qah (hK _ (AW.to (qbd (s' := ⟨[(0, .yl id ver), (1, FA), (2, FG), (3, FM), (5, HV.v (.slice none 0 0)), (8, slE eStr all), (9, .int .i64 (all.length : Int)), (10, .int .i64 0)], H⟩) (le_slH ⟨rfl, rfl, rfl, rfl, rfl, rfl, rfl, rfl, trivial⟩) ?_)))
 clear hK K1
 have hiO := freshH_none H
 generalize freshH H = iO0 at hiO
 refine AW.to (to_own iO0 5 1 9 rfl fun v0 => ?_)
 refine AW.block ?_
 refine AW.loopS (fun p : Nat × List (List UInt8) × Nat × Nat × Heap => ⟨[(0, .yl id ver), (1, FA), (2, FG), (3, FM), (5, .ar p.2.2.1 p.2.2.2.1 1 0 p.2.1.length), (8, slE eStr all), (9, .int .i64 (all.length : Int)), (10, .int .i64 (p.1 : Int))], (p.2.2.1, p.2.2.2.1, oTx p.2.1) :: p.2.2.2.2⟩)
  (fun p => p.1 ≤ all.length ∧ tkW (condT p0 ms) (all.drop p.1) p.2.1 = some L ∧ hget p.2.2.2.2 p.2.2.1 = none ∧ J p.2.1.length p.2.2.2.2 ∧ p.2.1.length ≤ p.1) (fun p => all.length - p.1) (0, [], iO0, v0, H) ⟨qaL ⟨rfl, rfl, rfl, rfl, rfl, rfl, rfl, rfl, trivial⟩, le_hset⟩ ⟨Nat.zero_le _, h, hiO, h0, Nat.le_refl _⟩ ?_
 clear h0 hiO iO0 v0 h H
 rintro ⟨i, out, iO, v, H⟩ ⟨hi, h, hiO, hj, hlo⟩
 dsimp only at hi h hiO hj hlo ⊢
 have hnxt : IntKind.wrap .i64 ((i : Int) + 1) = ((i + 1 : Nat) : Int) := by rw [w64 (by omega) (by omega)]; omega
 refine AW.rgs rfl fun K1 hK => ?_
 refine bv rfl (qaf rfl rfl b_lss) ?_
 refine qah (hK _ (AW.to (qbd (s' := ⟨[(0, .yl id ver), (1, FA), (2, FG), (3, FM), (5, .ar iO v 1 0 out.length), (8, slE eStr all), (9, .int .i64 (all.length : Int)), (10, .int .i64 (i : Int)), (11, .bool (decide ((i : Int) < (all.length : Int))))], (iO, v, oTx out) :: H⟩) (le_slH ⟨rfl, rfl, rfl, rfl, rfl, rfl, rfl, rfl, rfl, trivial⟩) ?_)))
 clear hK K1
 refine AW.cseq rfl (fun hc => ?_) (fun hc => ?_)
 ·have hc := of_decide_eq_true hc
  have hil : i < all.length := by omega
  have hix : idx all (i : Int) = some all[i] := by rw [idx_nat, List.getElem?_eq_getElem hil]
  rw [List.drop_eq_getElem_cons hil] at h
  generalize all[i] = w at hix h
  simp only [tkW] at h
  obtain ⟨b, hb, h⟩ := Option.bind_eq_some_iff.1 h
  refine AW.skip ?_
  refine AW.seqGr (fun s' => ∃ (out' : List (List UInt8)) (iN vN : Nat) (H2 : Heap), tkW (condT p0 ms) (all.drop (i + 1)) out' = some L ∧ hget H2 iN = none ∧ J out'.length H2 ∧ out'.length ≤ i + 1 ∧ AS.le s' ⟨[(0, .yl id ver), (1, FA), (2, FG), (3, FM), (5, .ar iN vN 1 0 out'.length), (8, slE eStr all), (9, .int .i64 (all.length : Int)), (10, .int .i64 (i : Int))], (iN, vN, oTx out') :: H2⟩) ?_ ?_
  ·refine AW.block ?_
   refine AW.rgs rfl fun K1 hK => ?_
   refine bv rfl (qaW ty22 es22 rfl rfl (qaO hix)) ?_
   refine bv rfl (qab ty9 rfl (qaZ eStr hix (o := 0) rfl rfl)) ?_
   obtain ⟨f7, hf7⟩ := fresh_id ((iO, v, oTx out) :: H) 7
   refine b_op rfl (qbj (fid := f7) (zs := [HV.str []]) (f7 * 1000 + 7) rfl rfl ty9 rfl (fun v7 => ?_))
   refine b_op rfl (qaH (cs := [HV.str w]) (zs := [HV.str w]) rfl rfl rfl ty9 rfl qaX rfl rfl rfl ?_)
   generalize f7 * 1000 + 7 = i7 at hf7
   refine qah (hK _ (AW.to (qbd (s' := ⟨[(0, .yl id ver), (1, FA), (2, FG), (3, FM), (5, .ar iO v 1 0 out.length), (7, .ptr i7 v7 0), (8, slE eStr all), (9, .int .i64 (all.length : Int)), (10, .int .i64 (i : Int))], (i7, v7, .arr 1 9 [HV.str w]) :: (iO, v, oTx out) :: H⟩) ⟨qaL ⟨rfl, rfl, rfl, rfl, rfl, rfl, rfl, rfl, rfl, trivial⟩, le_again⟩ ?_)))
   clear hK K1
   have hdrop := le_fresh (v := v7) (o := .arr 1 9 [HV.str w]) hf7
   have hgO : hget ((i7, v7, .arr 1 9 [HV.str w]) :: (iO, v, oTx out) :: H) iO = some (v, oTx out) := hdrop _ _ qaX
   have hne7 : i7 ≠ iO := fun e => by subst e; rw [qaX] at hf7; cases hf7
   obtain ⟨jw, hjw, hb⟩ := Option.bind_eq_some_iff.1 hb
   refine AW.seq ?_
   refine AW.rgs rfl fun K1 hK => ?_
   have fin : K1 ⟨[(0, .yl id ver), (1, FA), (2, FG), (3, FM), (5, .ar iO v 1 0 out.length), (7, .ptr i7 v7 0), (8, slE eStr all), (9, .int .i64 (all.length : Int)), (10, .int .i64 (i : Int)), (24, .bool b)], (i7, v7, .arr 1 9 [HV.str w]) :: (iO, v, oTx out) :: H⟩ := by
    refine hK _ ?_
    clear hK K1
    refine AW.cond rfl (fun hc => ?_) (fun hc => ?_)
    ·subst hc
     rw [if_pos rfl] at h
     refine AW.exit ?_
     exact .inl ⟨rfl, out, iO, v, H, h, hiO, hj, by omega, qaL ⟨rfl, rfl, rfl, rfl, rfl, rfl, rfl, rfl, trivial⟩, hdrop⟩
    ·subst hc
     rw [if_neg (by decide)] at h
     obtain ⟨l2, hl2⟩ := tkW_pre h
     refine AW.skip ?_
     refine AW.rgs rfl fun K1 hK => ?_
     refine mv rfl rfl ?_
     refine bv rfl (qas ty9 rfl qaX (qam rfl rfl)) ?_
     refine b_op rfl (o_bsl rfl rfl (as_of (cs := [HV.str w]) ty22 ty9 rfl rfl rfl rfl rfl) ?_)
     refine b_op rfl (o_appE eStr (l := out) (m := [w]) rfl rfl ty22 ty22 ty9 rfl hgO rfl rfl rfl ⟨by simp; omega, by simp only [maxLen, List.length_singleton]; omega⟩ (fun v2 => ?_))
     refine mv rfl rfl ?_
     refine qah (hK _ (AW.to (qbd (s' := ⟨[(0, .yl id ver), (1, FA), (2, FG), (3, FM), (5, .ar iO v2 1 0 (out ++ [w]).length), (7, .ptr i7 v7 0), (8, slE eStr all), (9, .int .i64 (all.length : Int)), (10, .int .i64 (i : Int))], (i7, v7, .arr 1 9 [HV.str w]) :: (iO, v2, oTx (out ++ [w])) :: H⟩) ⟨qaL ⟨rfl, rfl, rfl, rfl, rfl, rfl, rfl, rfl, rfl, trivial⟩, fun j x hx => ?_⟩ ?_)))
     ·by_cases e7 : j = i7
      ·subst e7
       rw [qaX] at hx
       rw [qax hne7, qaX]
       exact hx
      ·rw [qax e7] at hx
       by_cases eO : j = iO
       ·subst eO
        rw [qaX] at hx ⊢
        exact hx
       ·rw [qax eO] at hx
        rw [qax eO, qax e7, qax eO]
        exact hx
     clear hK K1
     have hf7' : hget ((iO, v2, oTx (out ++ [w])) :: H) i7 = none := by
      rw [qax hne7] at hf7 ⊢
      exact hf7
     refine AW.rgs rfl fun K1 hK => ?_
     refine mv rfl rfl ?_
     refine bv rfl (qas ty9 rfl qaX (qam rfl rfl)) ?_
     refine qbs (s' := ⟨[(0, .yl id ver), (1, FA), (2, FG), (3, FM), (5, .ar iO v2 1 0 (out ++ [w]).length), (8, slE eStr all), (9, .int .i64 (all.length : Int)), (10, .int .i64 (i : Int)), (29, .yl id ver), (30, .str w)], (iO, v2, oTx (out ++ [w])) :: H⟩) ⟨qaL ⟨rfl, rfl, rfl, rfl, rfl, rfl, rfl, rfl, rfl, rfl, trivial⟩, le_fresh hf7'⟩ ?_
     refine b_yieldH (t := 5) (n := (out ++ [w]).length) (hs := [HV.str w]) rfl rfl rfl rfl hiO ?_
     refine (hstep out.length [HV.str w] H ?_ hj).mono ?_
     ·rw [List.getElem?_map, hl2, List.append_assoc, List.getElem?_append_right (Nat.le_refl _), Nat.sub_self]
      rfl
     rintro r H2 ⟨bb, rfl, h3, h4⟩ iN v3 hiN
     refine bv rfl (v_not rfl) ?_
     refine qah (hK _ (AW.to (qbd (s' := ⟨[(0, .yl id ver), (1, FA), (2, FG), (3, FM), (5, .ar iN v3 1 0 (out ++ [w]).length), (8, slE eStr all), (9, .int .i64 (all.length : Int)), (10, .int .i64 (i : Int)), (32, .bool (!bb))], (iN, v3, oTx (out ++ [w])) :: H2⟩) ⟨qaL ⟨rfl, rfl, rfl, rfl, rfl, rfl, rfl, rfl, rfl, trivial⟩, fun _ _ h => h⟩ ?_)))
     clear hK K1
     refine AW.cond rfl (fun hc => ?_) (fun hc => ?_)
     ·have hbb : bb = false := by simpa using hc
      refine AW.to (qbd (s' := ⟨[], H2⟩) ⟨(fun _ _ h => by cases h), le_fresh hiN⟩ ?_)
      refine AW.ret (.inr ⟨rfl, ?_⟩)
      refine And.intro (.inr rfl) ?_
      simp only [go_sem, reduceIte, Nat.reduceEqDiff]
      exact ⟨_, _, Conv.refl _ _, hstop _ (h4 hbb)⟩
     ·have hbb : bb = true := by simpa using hc
      refine AW.skip (.inl ⟨rfl, out ++ [w], iN, v3, H2, h, hiN, ?_, by rw [List.length_append, List.length_singleton]; omega, qaL ⟨rfl, rfl, rfl, rfl, rfl, rfl, rfl, rfl, trivial⟩, fun _ _ h => h⟩)
      rw [List.length_append]
      exact h3 hbb
   refine bv rfl (qab ty27 (by rw [← hFG]; rfl) (qaz rfl (Nat.le_of_ble_eq_true rfl) rfl)) ?_
   refine bv rfl (qab ty22 (by rw [← hFM]; rfl) (qam rfl rfl)) ?_
   refine bv rfl (qas ty9 rfl qaX (qam rfl rfl)) ?_
   refine bv rfl (qas ty9 rfl qaX (qam rfl rfl)) ?_
   refine b_op rfl (qay rfl rfl rfl rfl (ACallD.pure0 (w_merging_joins hjw)) ?_)
   refine bv rfl (v_not rfl) ?_
   refine mv rfl rfl ?_
   by_cases hj1 : jw = true
   ·subst hj1
    rw [if_neg (by decide)] at hb
    refine b_T rfl rfl rfl rfl rfl (qai rfl (qaR rfl rfl).2 ?_)
    refine b_T rfl rfl rfl rfl rfl (qai rfl (v_func rfl rfl) ?_)
    have hfr : [HV.ar iO v 1 0 out.length, HV.fn (.func 148) [] [FG, FM, .ptr i7 v7 0]].map (frz 2 ((i7, v7, .arr 1 9 [HV.str w]) :: (iO, v, oTx out) :: H)) = [slE eStr out, HV.fn (.func 148) [] [FG, FM, HV.fptr [HV.str w] 0]] := by
     have e1 := frz_slE eStr (l := out) hgO fun _ _ => rfl
     have e2 : frz 1 ((i7, v7, .arr 1 9 [HV.str w]) :: (iO, v, oTx out) :: H) (.ptr i7 v7 0) = HV.fptr [HV.str w] 0 := by
      simp only [frz, qaX, if_true, List.map_cons, List.map_nil]
     simp only [List.map_cons, List.map_nil]
     rw [show frz 2 ((i7, v7, .arr 1 9 [HV.str w]) :: (iO, v, oTx out) :: H) (.ar iO v 1 0 out.length) = slE eStr out from e1]
     rw [show frz 2 ((i7, v7, .arr 1 9 [HV.str w]) :: (iO, v, oTx out) :: H) (HV.fn (.func 148) [] [FG, FM, .ptr i7 v7 0]) = HV.fn (.func 148) [] [frz 1 ((i7, v7, .arr 1 9 [HV.str w]) :: (iO, v, oTx out) :: H) FG, frz 1 ((i7, v7, .arr 1 9 [HV.str w]) :: (iO, v, oTx out) :: H) FM, frz 1 ((i7, v7, .arr 1 9 [HV.str w]) :: (iO, v, oTx out) :: H) (.ptr i7 v7 0)] from rfl, e2]
     rw [← hFG, ← hFM]
     rfl
    have hcf := qaE (g1 := 148) (z1 := [FG, FM, HV.fptr [HV.str w] 0]) hb (fun a0 b0 h0 => by rw [← hFG, ← hFM]; exact w_merging_taken_1_1 h0)
    refine b_T rfl rfl rfl rfl rfl (qay rfl rfl rfl rfl (Fresh.callD 2 (hcf.fresh trivial rfl) hfr) ?_)
    refine bv rfl (qan rfl rfl rfl) ?_
    refine qbs (s' := ⟨[(0, .yl id ver), (1, FA), (2, FG), (3, FM), (5, .ar iO v 1 0 out.length), (7, .ptr i7 v7 0), (8, slE eStr all), (9, .int .i64 (all.length : Int)), (10, .int .i64 (i : Int)), (24, .bool b)], (i7, v7, .arr 1 9 [HV.str w]) :: (iO, v, oTx out) :: H⟩) ⟨qaL ⟨rfl, rfl, rfl, rfl, rfl, rfl, rfl, rfl, rfl, rfl, trivial⟩, fun _ _ h => h⟩ ?_
    exact qah fin
   ·obtain rfl : jw = false := by simpa using hj1
    rw [if_pos (by decide)] at hb
    obtain rfl : b = true := (Option.some.inj hb).symm
    refine b_F rfl rfl rfl rfl rfl rfl ?_
    refine b_F rfl rfl rfl rfl rfl rfl ?_
    refine b_F rfl rfl rfl rfl rfl rfl ?_
    refine bv rfl (qak rfl rfl rfl) ?_
    refine qbs (s' := ⟨[(0, .yl id ver), (1, FA), (2, FG), (3, FM), (5, .ar iO v 1 0 out.length), (7, .ptr i7 v7 0), (8, slE eStr all), (9, .int .i64 (all.length : Int)), (10, .int .i64 (i : Int)), (24, .bool true)], (i7, v7, .arr 1 9 [HV.str w]) :: (iO, v, oTx out) :: H⟩) ⟨qaL ⟨rfl, rfl, rfl, rfl, rfl, rfl, rfl, rfl, rfl, rfl, trivial⟩, fun _ _ h => h⟩ ?_
    exact qah fin
  ·rintro s' ⟨out', iN, vN, H2, h1, h2, h3, h4, hle⟩
   refine AW.to (qbd hle ?_)
   refine AW.rg rfl fun K1 hK => ?_
   refine bv rfl (qaf rfl rfl b_add) ?_
   rw [hnxt]
   refine mv rfl rfl ?_
   refine qah (hK _ ?_)
   exact ⟨(i + 1, out', iN, vN, H2), ⟨by dsimp only; omega, h1, h2, h3, h4⟩, by dsimp only; omega, ⟨qaL ⟨rfl, rfl, rfl, rfl, rfl, rfl, rfl, rfl, trivial⟩, fun _ _ h => h⟩⟩
 ·have hc := of_decide_eq_false hc
  have hie : i = all.length := by omega
  subst hie
  rw [List.drop_length] at h
  have h : out = L := Option.some.inj h
  refine AW.exit ?_
  refine ⟨.inl rfl, ?_⟩
  simp only [go_sem, reduceIte, Nat.reduceEqDiff]
  refine ⟨_, _, Conv.refl _ _, hdone _ ?_⟩
  rw [List.length_map, ← h]
  exact hmn _ _ _ hj (le_fresh hiO)
abbrev hR (v8 v36 v5 v12 v9 Sn : Nat) (seen : List Bool) (rs : Rws) : Heap := (234008, v8, .arr 1 189 [.ar 234036 v36 1 0 Sn]) :: (234036, v36, .arr 1 4 (eBool.E seen)) :: (234005, v5, .arr 1 151 [.ar 234012 v12 1 0 Sn]) :: (234012, v12, .arr 1 31 (hdr 0 rs)) :: (234009, v9, .arr 1 186 [.fn (.func 251) [] [.ptr 234008 v8 0, .ptr 234005 v5 0, .ptr 234009 v9 0]]) :: rowsO 0 rs
theorem hR_rid {v8 v36 v5 v12 v9 Sn : Nat} {seen : List Bool} {rs : Rws} (i : Nat) : hget (hR v8 v36 v5 v12 v9 Sn seen rs) (rid i) = hget (rowsO 0 rs) (rid i) := by
  rw [qax (by unfold rid; omega), qax (by unfold rid; omega), qax (by unfold rid; omega), qax (by unfold rid; omega), qax (by unfold rid; omega)]
theorem hR_set {v8 v36 v5 v12 v9 Sn : Nat} {seen seen' : List Bool} {rs : Rws} : ∀ id x, hget (hR v8 v36 v5 v12 v9 Sn seen' rs) id = some x → hget ((234036, v36, .arr 1 4 (eBool.E seen')) :: hR v8 v36 v5 v12 v9 Sn seen rs) id = some x := by
  refine leH_get ⟨rfl, rfl, rfl, rfl, rfl, leH_rows _ 0 fun i v' l' hi => ?_⟩
  rw [qax (by unfold rid; omega), Nat.zero_add, hR_rid]
  have := hget_rows 0 hi
  rwa [Nat.zero_add] at this
set_option maxHeartbeats 4000000 in
set_option maxRecDepth 100000 in
theorem visit_call {v8 v36 v5 v12 v9 Sn : Nat} {rs : Rws} {nx : Nat → List Int} (hrs : rs.length = Sn) (hnx : ∀ (i v : Nat) (l : List Int), rs[i]? = some (v, l) → l = nx i) (hb : ∀ i, i < Sn → ∀ t ∈ nx i, 0 ≤ t ∧ t < (Sn : Int)) (hl : ∀ i, i < Sn → (nx i).length ≤ 100000) (hS : Sn ≤ 1000) :
    ∀ (n : Nat) (seen : List Bool) (s : Nat), seen.length = Sn → s < Sn → seen.getD s true = false → seen.count false ≤ n →
      ACall Tryz.prog 251 [hI (s : Int), .ptr 234008 v8 0, .ptr 234005 v5 0, .ptr 234009 v9 0] (hR v8 v36 v5 v12 v9 Sn seen rs) (fun r H' => r = HV.tup [] ∧ H' = hR v8 v36 v5 v12 v9 Sn (visitF nx n seen s) rs)
  | 0, seen, s, h1, h2, h3, h4 => by
    have := count_set_true h3
    omega
  | n + 1, seen, s, h1, h2, h3, h4 => by
    refine ACall.of_body Tryz.func251 rfl rfl (lb rfl) ?_
    unfold Tryz.f251
    dsimp only [qaG, Nat.reduceAdd]
    have hfl : s < rs.length := by omega
    obtain ⟨⟨rv, rl⟩, hrow⟩ : ∃ b, rs[s]? = some b := ⟨_, List.getElem?_eq_getElem hfl⟩
    have hrl := hnx _ _ _ hrow
    have hll : rl.length ≤ 100000 := by rw [hrl]; exact hl s h2
    have hhd : (hdr 0 rs)[(s : Int).toNat * 1]? = some (HV.ar (rid s) rv 1 0 rl.length) := by
      have := hdr_get 0 hrow
      rw [Nat.zero_add] at this
      rw [Nat.mul_one]
      exact this
    have hrg : ∀ sn : List Bool, hget (hR v8 v36 v5 v12 v9 Sn sn rs) (rid s) = some (rv, .arr 1 3 (eInt.E rl)) := fun sn => by
      rw [hR_rid]
      have := hget_rows 0 hrow
      rwa [Nat.zero_add] at this
    refine AW.rgs rfl fun K hK => bv rfl (qas ty189 rfl rfl (qam rfl rfl)) (mv rfl rfl (bv rfl (v_idxA ty189 es189 rfl rfl ⟨by omega, by omega⟩ rfl) ?_))
    refine b_op rfl (o_storeE eBool (l := seen) (j := (s : Int)) (v := true) rfl rfl rfl ty4 rfl rfl rfl ⟨by omega, by omega⟩ ?_)
    refine qah (hK _ (AW.to (qbd (s' := ⟨[(0, hI (s : Int)), (1, .ptr 234008 v8 0), (2, .ptr 234005 v5 0), (3, .ptr 234009 v9 0)], hR v8 v36 v5 v12 v9 Sn (seen.set s true) rs⟩) ⟨qaL ⟨rfl, rfl, rfl, rfl, trivial⟩, hR_set⟩ ?_)))
    refine AW.rgs rfl fun K hK => bv rfl (qas ty151 rfl rfl (qam rfl rfl)) (mv rfl rfl (bv rfl (v_idxA ty151 es151 rfl rfl ⟨by omega, by omega⟩ rfl) (bv rfl (qas ty31 rfl rfl (qam rfl hhd)) (bv rfl (v_lenA rfl rfl ty31 rfl (hrg _)) (mv rfl rfl ?_)))))
    refine qah (hK _ (AW.to (qbd (s' := ⟨[(1, .ptr 234008 v8 0), (2, .ptr 234005 v5 0), (3, .ptr 234009 v9 0), (13, .ar (rid s) rv 1 0 rl.length), (14, hI (rl.length : Int)), (15, hI 0)], hR v8 v36 v5 v12 v9 Sn (seenK nx n seen s 0) rs⟩) ⟨qaL ⟨rfl, rfl, rfl, rfl, rfl, rfl, trivial⟩, fun _ _ h => h⟩ ?_)))
    refine AW.block ?_
    refine AW.loopS (fun i : Nat => ⟨[(1, .ptr 234008 v8 0), (2, .ptr 234005 v5 0), (3, .ptr 234009 v9 0), (13, .ar (rid s) rv 1 0 rl.length), (14, hI (rl.length : Int)), (15, hI (i : Int))], hR v8 v36 v5 v12 v9 Sn (seenK nx n seen s i) rs⟩)
      (fun i => i ≤ rl.length) (fun i => rl.length - i) 0 (AS.le_refl _) (Nat.zero_le _) ?_
    intro i hi
    have hsl := seenK_len nx n seen s i
    have hsc := seenK_count (nx := nx) (i := i) h3 h4
    have hsk : ∀ (h : i < rl.length), seenK nx n seen s (i + 1) = if (seenK nx n seen s i).getD rl[i].toNat true = true then seenK nx n seen s i else visitF nx n (seenK nx n seen s i) rl[i].toNat := by
      subst hrl
      exact fun h => seenK_succ nx n seen s h
    have hbt : ∀ t ∈ rl, 0 ≤ t ∧ t < (Sn : Int) := by
      rw [hrl]; exact hb s h2
    have hfin : i = rl.length → seenK nx n seen s i = visitF nx (n + 1) seen s := by
      rintro rfl
      rw [hrl]
      unfold seenK
      rw [List.take_length]
      rfl
    generalize seenK nx n seen s i = sn at hsl hsc hsk hfin
    refine AW.rgs rfl fun K hK => bv rfl (qaf rfl rfl b_lss) ?_
    refine qah (hK _ (AW.to (qbd (s' := ⟨[(1, .ptr 234008 v8 0), (2, .ptr 234005 v5 0), (3, .ptr 234009 v9 0), (13, .ar (rid s) rv 1 0 rl.length), (14, hI (rl.length : Int)), (15, hI (i : Int)), (16, .bool (decide ((i : Int) < (rl.length : Int))))], hR v8 v36 v5 v12 v9 Sn sn rs⟩) ⟨qaL ⟨rfl, rfl, rfl, rfl, rfl, rfl, rfl, trivial⟩, fun _ _ h => h⟩ ?_)))
    refine AW.cseq rfl (fun hc => ?_) (fun hc => ?_)
    · have hc := of_decide_eq_true hc
      have hil : i < rl.length := by omega
      have hsk := hsk hil
      obtain ⟨t0, t1⟩ := hbt _ (List.getElem_mem hil)
      have hidx : idx rl (i : Int) = some rl[i] := by rw [idx_nat, List.getElem?_eq_getElem hil]
      have htl : rl[i].toNat < sn.length := by omega
      have hidb : idx sn rl[i] = some (sn.getD rl[i].toNat true) := by
        unfold idx
        rw [if_pos t0, List.getElem?_eq_getElem htl, List.getD_eq_getElem?_getD, List.getElem?_eq_getElem htl]
        rfl
      generalize rl[i] = tt at t0 t1 hidx hidb hsk htl
      refine AW.skip ?_
      refine AW.seq (AW.block ?_)
      refine AW.rgs rfl fun K hK => bv rfl (v_idxA ty31 es31 rfl rfl (qaO hidx) (hrg _)) (bv rfl (qas ty3 rfl (hrg _) (qaZ eInt hidx (o := 0) rfl rfl)) (mv rfl rfl ?_))
      refine qah (hK _ (AW.to (qbd (s' := ⟨[(1, .ptr 234008 v8 0), (2, .ptr 234005 v5 0), (3, .ptr 234009 v9 0), (6, hI tt), (13, .ar (rid s) rv 1 0 rl.length), (14, hI (rl.length : Int)), (15, hI (i : Int))], hR v8 v36 v5 v12 v9 Sn sn rs⟩) ⟨qaL ⟨rfl, rfl, rfl, rfl, rfl, rfl, rfl, trivial⟩, fun _ _ h => h⟩ ?_)))
      refine AW.rgs rfl fun K hK => bv rfl (qas ty189 rfl rfl (qam rfl rfl)) (mv rfl rfl (bv rfl (v_idxA ty189 es189 rfl rfl ⟨t0, t1⟩ rfl) (bv rfl (qas ty4 rfl rfl (qaZ eBool hidb (o := 0) rfl rfl)) (bv rfl (v_not rfl) ?_))))
      refine qah (hK _ (AW.to (qbd (s' := ⟨[(1, .ptr 234008 v8 0), (2, .ptr 234005 v5 0), (3, .ptr 234009 v9 0), (6, hI tt), (13, .ar (rid s) rv 1 0 rl.length), (14, hI (rl.length : Int)), (15, hI (i : Int)), (23, .bool (!(sn.getD tt.toNat true)))], hR v8 v36 v5 v12 v9 Sn sn rs⟩) ⟨qaL ⟨rfl, rfl, rfl, rfl, rfl, rfl, rfl, rfl, trivial⟩, fun _ _ h => h⟩ ?_)))
      have hnxt : IntKind.wrap .i64 ((i : Int) + 1) = ((i + 1 : Nat) : Int) := by rw [w64 (by omega) (by omega)]; omega
      refine AW.cond rfl (fun hc => ?_) (fun hc => ?_)
      · have hc' : sn.getD tt.toNat true = false := by simpa using hc
        rw [hc', if_neg (by decide)] at hsk
        have hcall := visit_call (v8 := v8) (v36 := v36) (v5 := v5) (v12 := v12) (v9 := v9) hrs hnx hb hl hS n sn tt.toNat (by omega) (by omega) hc' hsc
        rw [← hsk, show ((tt.toNat : Nat) : Int) = tt by omega] at hcall
        refine AW.rg rfl fun K hK => bv rfl (qas ty186 rfl rfl (qam rfl rfl)) (mv rfl rfl ?_)
        refine b_op rfl (o_callA rfl rfl rfl rfl (hcall.mono fun r H' he => ?_))
        obtain ⟨rfl, rfl⟩ := he
        refine qah (hK _ ?_)
        refine AW.rg rfl fun K hK => bv rfl (qaf rfl rfl b_add) (mv rfl rfl ?_)
        refine qah (hK _ ?_)
        exact ⟨i + 1, by omega, by omega, ⟨qaL ⟨rfl, rfl, rfl, rfl, rfl, by rw [← hnxt]; rfl, trivial⟩, fun _ _ h => h⟩⟩
      · have hc' : sn.getD tt.toNat true = true := by simpa using hc
        rw [hc', if_pos rfl] at hsk
        refine AW.skip ?_
        refine AW.rg rfl fun K hK => bv rfl (qaf rfl rfl b_add) (mv rfl rfl ?_)
        refine qah (hK _ ?_)
        exact ⟨i + 1, by omega, by omega, ⟨qaL ⟨rfl, rfl, rfl, rfl, rfl, by rw [← hnxt]; rfl, trivial⟩, fun id x h => by rw [hsk] at h; exact h⟩⟩
    have hc := of_decide_eq_false hc
    have hie : i = rl.length := by omega
    refine AW.exit ?_
    exact ⟨.inl rfl, ⟨_, _, Conv.refl _ _, rfl, by rw [hfin hie]⟩⟩
abbrev hN (v5 v12 Sn : Nat) (hd : List HV) (rs : Rws) : Heap := (234005, v5, .arr 1 151 [.ar 234012 v12 1 0 Sn]) :: (234012, v12, .arr 1 31 hd) :: rowsO 0 rs
theorem hN_rid {v5 v12 Sn : Nat} {hd : List HV} {rs : Rws} (i : Nat) : hget (hN v5 v12 Sn hd rs) (rid i) = hget (rowsO 0 rs) (rid i) := by
  rw [qax (by unfold rid; omega), qax (by unfold rid; omega)]
def valR (v7 v12 v' : Nat) (n : Nat) (e : qaj) (rv : Nat) (l : List Int) : Nat → HV
  | 0 | 3 => HV.ar 234012 v12 1 0 n
  | 1 | 4 => HV.ptr 234007 v7 0
  | 2 | 5 => hI e.1
  | 6 => HV.ptr 234012 v12 (e.1.toNat * 1)
  | 7 => HV.ar (rid e.1.toNat) rv 1 0 l.length
  | 8 => HV.ptr 234007 v7 2
  | 9 => hI e.2.2
  | 10 => HV.sl 1 1 [hI e.2.2]
  | _ => HV.ar (rid e.1.toNat) v' 1 0 (l ++ [e.2.2]).length
abbrev hpR (v5 v7 v12 Sn : Nat) (e : qaj) (hd : List HV) (rs' : Rws) : Heap := (234007, v7, .arr 3 128 (qa7 e)) :: hN v5 v12 Sn hd rs'
theorem hpR_rid {v5 v7 v12 Sn : Nat} {e : qaj} {hd : List HV} {rs : Rws} (i : Nat) : hget (hpR v5 v7 v12 Sn e hd rs) (rid i) = hget (rowsO 0 rs) (rid i) := by
  rw [qax (by unfold rid; omega), hN_rid]
structure InvR (base : List (Nat × HV)) (val : Nat → Nat → HV) (H0 : Heap) (H1 : Nat → Heap) (v' : Nat) (L : List Nat) (s : AS) : Prop where
  base : ∀ p ∈ base, sget s.slots p.1 = some p.2
  val : ∀ k ∈ L, k < 12 → sget s.slots (20 + k) = some (val v' k)
  heap : ∀ id x, hget (if 11 ∈ L then H1 v' else H0) id = some x → hget s.heap id = some x
theorem InvR.put {base : List (Nat × HV)} {val : Nat → Nat → HV} {H0 : Heap} {H1 : Nat → Heap} {v' : Nat} {L : List Nat} {s : AS} (h : InvR base val H0 H1 v' L s) (hb : ∀ p ∈ base, p.1 < 20) {i : Nat} (hi : i ≠ 11) {hv : HV} (hval : val v' i = hv) : InvR base val H0 H1 v' (i :: L) ⟨(20 + i, hv) :: s.slots, s.heap⟩ where
  base := fun p hp => by
    have := hb p hp
    show sget ((20 + i, hv) :: s.slots) p.1 = _
    simp only [sget]
    rw [if_neg (by omega)]
    exact h.base p hp
  val := fun k hk h12 => by
    show sget ((20 + i, hv) :: s.slots) (20 + k) = _
    simp only [sget]
    by_cases e : k = i
    · subst e
      rw [if_pos rfl, hval]
    · rw [if_neg (by omega)]
      rcases List.mem_cons.1 hk with h1 | h1
      · exact absurd h1 e
      · exact h.val k h1 h12
  heap := fun id x hx => by
    refine h.heap id x ?_
    have : (11 ∈ i :: L) ↔ 11 ∈ L := by
      rw [List.mem_cons]
      exact ⟨fun h => h.elim (fun e => absurd e.symm hi) (fun h => h), .inr⟩
    by_cases h11 : 11 ∈ L
    · rw [if_pos (this.2 h11)] at hx
      rw [if_pos h11]; exact hx
    · rw [if_neg (fun h => h11 (this.1 h))] at hx
      rw [if_neg h11]; exact hx
theorem nextK_succ (E : List qaj) {k : Nat} (h : k < E.length) (i : Nat) : nextK (E.take (k + 1)) i = nextK (E.take k) i ++ if E[k].1 = (i : Int) then [E[k].2.2] else [] := by
  unfold nextK
  rw [← List.take_append_getElem h, List.filter_append, List.map_append]
  congr 1
  by_cases e : E[k].1 = (i : Int)
  · rw [if_pos e, List.filter_cons, if_pos (by simpa using e)]; rfl
  · rw [if_neg e, List.filter_cons, if_neg (by simpa using e)]; rfl
set_option maxHeartbeats 8000000 in
set_option maxRecDepth 100000 in
theorem w_component_reach {p0 : qaa} {p1 : Int} {r : List Bool} (h : m_component_reach p0 p1 = some r) : Pure Tryz.prog 234 [gA p0, hI p1] (· = slE eBool r) := by
  unfold m_component_reach at h
  by_cases hok : reachOk p0 p1
  case neg => rw [if_neg hok] at h; cases h
  rw [if_pos hok] at h
  obtain rfl := oi h
  obtain ⟨L0, SS, E⟩ := p0
  obtain ⟨⟨hs0, hs1⟩, hE, ⟨h0, h1⟩, hed⟩ := hok
  simp only at hs0 hs1 hE h0 h1 hed ⊢
  obtain ⟨Sn, rfl⟩ := Int.eq_ofNat_of_zero_le hs0
  obtain ⟨sn, rfl⟩ := Int.eq_ofNat_of_zero_le h0
  refine Pure.of_body Tryz.func234 rfl rfl (lb rfl) fun hf => ?_
  clear hf hs0 h0
  unfold Tryz.f234
  dsimp only [qaG, Nat.reduceAdd]
  refine AW.rgs rfl fun K hK => b_op rfl (o_box rfl rfl rfl ?_)
  refine mv rfl rfl ?_
  let P1 : ASf := fun t H => ⟨(1, hI (sn : Int)) :: (2, .fptr [hI L0, hI (Sn : Int), slE eFromLabelTo E] 0) :: t, H⟩
  refine bf hK (P1 [] []) ?_
  refine AW.rgs rfl fun K hK => bv rfl (qad fo27_1 rfl) (bv rfl (qab ty3 rfl (qam rfl rfl)) ?_)
  refine b_op rfl (o_makeE (fid := 234) (encM fun _ : Unit => HV.v (.slice none 0 0)) () 234012 rfl rfl ty151 rfl rfl ty31 rfl rfl (show 0 ≤ (Sn : Int) ∧ (Sn : Int) ≤ (Sn : Int) ∧ (Sn : Int) * ((24 : Nat) : Int) ≤ 281474976710656 by omega) (fun v12 => ?_))
  refine b_op rfl (qbj (fid := 234) (zs := [.v (.slice none 0 0)]) 234005 rfl rfl ty151 rfl (fun v5 => ?_))
  refine b_op rfl (qaH (cs := [.ar 234012 v12 1 0 (List.replicate (Sn : Int).toNat ()).length]) (zs := [.ar 234012 v12 1 0 (List.replicate (Sn : Int).toNat ()).length]) rfl rfl rfl ty151 rfl rfl rfl rfl rfl ?_)
  refine bf hK (P1 [(5, .ptr 234005 v5 0)] [(234005, v5, .arr 1 151 [.ar 234012 v12 1 0 (List.replicate (Sn : Int).toNat ()).length]), (234012, v12, .arr 1 31 ((List.replicate (Sn : Int).toNat ()).map fun _ => HV.v (.slice none 0 0)))]) ?_
  simp only [Int.toNat_natCast, List.length_replicate, List.map_replicate]
  refine AW.to (to_rows 234012 v12 31 [(234005, v5, .arr 1 151 [.ar 234012 v12 1 0 Sn])] Sn (fun i => by unfold rid; omega) (fun i => by rw [qax (by unfold rid; omega)]; rfl) rfl Sn [] (by simp) (fun i v l hi => by simp at hi) (fun id x hx => leH_get (l' := [(234012, v12, .arr 1 31 (List.replicate Sn (HV.v (.slice none 0 0)))), (234005, v5, .arr 1 151 [.ar 234012 v12 1 0 Sn])]) ⟨rfl, rfl, trivial⟩ id x hx) fun rs0 hrl0 hrs0 => ?_)
  refine AW.to (qbd (s' := ⟨[(1, hI (sn : Int)), (2, .fptr [hI L0, hI (Sn : Int), slE eFromLabelTo E] 0), (5, .ptr 234005 v5 0)], hN v5 v12 Sn (hdr 0 rs0) rs0⟩) ⟨qaL ⟨rfl, rfl, rfl, trivial⟩, leH_get ⟨rfl, rfl, leH_rows _ 0 fun i v l hi => ?_⟩⟩ ?_)
  · rw [Nat.zero_add]
    show hget ((234012, v12, .arr 1 31 (hdr 0 rs0)) :: ([(234005, v5, .arr 1 151 [.ar 234012 v12 1 0 Sn])] ++ rowsO 0 rs0)) (rid i) = _
    rw [qax (by unfold rid; omega), List.singleton_append, qax (by unfold rid; omega)]
    have := hget_rows 0 hi
    rwa [Nat.zero_add] at this
  refine AW.seq ?_
  refine AW.rgs rfl fun K hK => bv rfl (qad fo27_2 rfl) (bv rfl (qab ty25 rfl (qam rfl rfl)) (bv rfl (qaI rfl rfl ty25 rfl) (mv rfl rfl ?_)))
  refine qah (hK _ (AW.to (qbd (s' := ⟨[(1, hI (sn : Int)), (2, .fptr [hI L0, hI (Sn : Int), slE eFromLabelTo E] 0), (5, .ptr 234005 v5 0), (14, slE eFromLabelTo E), (15, hI (E.length : Int)), (16, hI 0)], hN v5 v12 Sn (hdr 0 rs0) rs0⟩) ⟨qaL ⟨rfl, rfl, rfl, rfl, rfl, rfl, trivial⟩, fun _ _ h => h⟩ ?_)))
  refine AW.block ?_
  refine AW.loopS (fun a : Nat × Rws => ⟨[(1, hI (sn : Int)), (2, .fptr [hI L0, hI (Sn : Int), slE eFromLabelTo E] 0), (5, .ptr 234005 v5 0), (14, slE eFromLabelTo E), (15, hI (E.length : Int)), (16, hI (a.1 : Int))], hN v5 v12 Sn (hdr 0 a.2) a.2⟩)
    (fun a => a.1 ≤ E.length ∧ a.2.length = Sn ∧ ∀ (i v : Nat) (l : List Int), a.2[i]? = some (v, l) → l = nextK (E.take a.1) i ∧ l.length ≤ a.1) (fun a => E.length - a.1) (0, rs0) ⟨qaL ⟨rfl, rfl, rfl, rfl, rfl, rfl, trivial⟩, fun _ _ h => h⟩ ⟨Nat.zero_le _, hrl0, fun i v l hi => by rw [hrs0 i v l hi]; exact ⟨rfl, Nat.le_refl _⟩⟩ ?_
  clear hrl0 hrs0 rs0
  rintro ⟨k, rs⟩ ⟨hk, hrs, hrw⟩
  simp only at hk hrs hrw
  refine AW.rgs rfl fun K hK => bv rfl (qaf rfl rfl b_lss) ?_
  refine qah (hK _ (AW.to (qbd (s' := ⟨[(1, hI (sn : Int)), (2, .fptr [hI L0, hI (Sn : Int), slE eFromLabelTo E] 0), (5, .ptr 234005 v5 0), (14, slE eFromLabelTo E), (15, hI (E.length : Int)), (16, hI (k : Int)), (17, .bool (decide ((k : Int) < (E.length : Int))))], hN v5 v12 Sn (hdr 0 rs) rs⟩) ⟨qaL ⟨rfl, rfl, rfl, rfl, rfl, rfl, rfl, trivial⟩, fun _ _ h => h⟩ ?_)))
  refine AW.cseq rfl (fun hc => ?_) (fun hc => ?_)
  · have hc := of_decide_eq_true hc
    have hkl : k < E.length := by omega
    have hnk := nextK_succ E hkl
    obtain ⟨⟨he1, he2⟩, ⟨he3, he4⟩⟩ := hed _ (List.getElem_mem hkl)
    have hidx : idx E (k : Int) = some E[k] := by rw [idx_nat, List.getElem?_eq_getElem hkl]
    generalize E[k] = e at hnk he1 he2 he3 he4 hidx
    have hfl0 : e.1.toNat < rs.length := by omega
    obtain ⟨⟨rv, l⟩, hrow⟩ : ∃ b, rs[e.1.toNat]? = some b := ⟨_, List.getElem?_eq_getElem hfl0⟩
    obtain ⟨hlk, hlen⟩ := hrw _ _ _ hrow
    refine AW.skip ?_
    refine AW.seq (AW.block ?_)
    refine AW.rgs rfl fun K hK => bv rfl (qaW ty25 es25 rfl rfl (qaO hidx)) (bv rfl (qab ty128 rfl (l_agg eFromLabelTo hidx rfl rfl)) ?_)
    refine b_op rfl (qbj (fid := 234) (zs := [hI 0, hI 0, hI 0]) 234007 rfl rfl ty128 rfl (fun v7 => ?_))
    refine b_op rfl (qaH (cs := qa7 e) (zs := qa7 e) rfl rfl rfl ty128 rfl rfl rfl rfl rfl ?_)
    refine qah (hK _ (AW.to (qbd (s' := ⟨[(1, hI (sn : Int)), (2, .fptr [hI L0, hI (Sn : Int), slE eFromLabelTo E] 0), (5, .ptr 234005 v5 0), (7, .ptr 234007 v7 0), (14, slE eFromLabelTo E), (15, hI (E.length : Int)), (16, hI (k : Int))], hpR v5 v7 v12 Sn e (hdr 0 rs) rs⟩) ⟨qaL ⟨rfl, rfl, rfl, rfl, rfl, rfl, rfl, trivial⟩, le_shadow⟩ ?_)))
    refine AW.dl follows fun K hK F hF => ?_
    refine l_go (L' := []) hF rfl (s' := ⟨[(1, hI (sn : Int)), (2, .fptr [hI L0, hI (Sn : Int), slE eFromLabelTo E] 0), (5, .ptr 234005 v5 0), (7, .ptr 234007 v7 0), (14, slE eFromLabelTo E), (15, hI (E.length : Int)), (16, hI (k : Int))], hpR v5 v7 v12 Sn e (hdr 0 rs) rs⟩) ?_ ⟨qaL ⟨rfl, rfl, rfl, rfl, rfl, rfl, rfl, trivial⟩, fun _ _ h => h⟩
    have hfin : ∀ v', F [0, 1, 2, 3, 4, 5, 6, 7, 8, 9, 10, 11] ⟨(20, .ar 234012 v12 1 0 Sn) :: (22, hI e.1) :: (31, .ar (rid e.1.toNat) v' 1 0 (l ++ [e.2.2]).length) :: [(1, hI (sn : Int)), (2, .fptr [hI L0, hI (Sn : Int), slE eFromLabelTo E] 0), (5, .ptr 234005 v5 0), (7, .ptr 234007 v7 0), (14, slE eFromLabelTo E), (15, hI (E.length : Int)), (16, hI (k : Int))], hpR v5 v7 v12 Sn e (hdr 0 rs) (rs.set e.1.toNat (v', l ++ [e.2.2]))⟩ := by
      intro v'
      have hdone : F [0, 1, 2, 3, 4, 5, 6, 7, 8, 9, 10, 11, 12, 13] ⟨[(1, hI (sn : Int)), (2, .fptr [hI L0, hI (Sn : Int), slE eFromLabelTo E] 0), (5, .ptr 234005 v5 0), (7, .ptr 234007 v7 0), (14, slE eFromLabelTo E), (15, hI (E.length : Int)), (16, hI (k : Int))], hpR v5 v7 v12 Sn e (hdr 0 (rs.set e.1.toNat (v', l ++ [e.2.2]))) (rs.set e.1.toNat (v', l ++ [e.2.2]))⟩ := by
        refine l_done hF rfl rfl (hK _ ?_)
        clear hF F hK K
        refine AW.rg rfl fun K hK => bv rfl (qaf rfl rfl b_add) (mv rfl rfl ?_)
        refine qah (hK _ ?_)
        have hnxt : IntKind.wrap .i64 ((k : Int) + 1) = ((k + 1 : Nat) : Int) := by rw [w64 (by omega) (by omega)]; omega
        refine ⟨(k + 1, rs.set e.1.toNat (v', l ++ [e.2.2])), ⟨by simp only; omega, by simp only [List.length_set]; exact hrs, ?_⟩, by simp only; omega, ⟨qaL ⟨rfl, rfl, rfl, rfl, rfl, by rw [← hnxt]; rfl, trivial⟩, fun id x hx => ?_⟩⟩
        · intro i v m hi
          simp only at hi ⊢
          rw [hnk]
          by_cases ei : e.1.toNat = i
          · subst ei
            rw [List.getElem?_set_self hfl0] at hi
            cases hi
            rw [if_pos (by omega), ← hlk]
            exact ⟨rfl, by simp; omega⟩
          · rw [List.getElem?_set_ne ei] at hi
            obtain ⟨q1, q2⟩ := hrw _ _ _ hi
            rw [if_neg (by omega), List.append_nil]
            exact ⟨q1, by omega⟩
        · show hget (hpR v5 v7 v12 Sn e _ _) id = some x
          by_cases j7 : id = 234007
          · subst j7
            have hno : hget (hN v5 v12 Sn (hdr 0 (rs.set e.1.toNat (v', l ++ [e.2.2]))) (rs.set e.1.toNat (v', l ++ [e.2.2]))) 234007 = none := by
              rw [qax (by decide), qax (by decide)]
              exact hget_rows_no _ _ fun i _ => by unfold rid; omega
            rw [hno] at hx
            cases hx
          · rw [qax j7]; exact hx
      have hj : 0 ≤ e.1 ∧ e.1 < (Sn : Int) := ⟨he1, he2⟩
      have hj2 : 0 ≤ e.1 ∧ e.1 < ((hdr 0 rs).length : Int) := by rw [hdr_len]; omega
      have hst : F [12, 0, 1, 2, 3, 4, 5, 6, 7, 8, 9, 10, 11] ⟨(32, .ptr 234012 v12 (e.1.toNat * 1)) :: (20, .ar 234012 v12 1 0 Sn) :: (22, hI e.1) :: (31, .ar (rid e.1.toNat) v' 1 0 (l ++ [e.2.2]).length) :: [(1, hI (sn : Int)), (2, .fptr [hI L0, hI (Sn : Int), slE eFromLabelTo E] 0), (5, .ptr 234005 v5 0), (7, .ptr 234007 v7 0), (14, slE eFromLabelTo E), (15, hI (E.length : Int)), (16, hI (k : Int))], hpR v5 v7 v12 Sn e (hdr 0 rs) (rs.set e.1.toNat (v', l ++ [e.2.2]))⟩ := by
        refine l_step hF rfl [13] rfl rfl ⟨?_, trivial⟩
        refine l_op rfl rfl rfl (o_storeE eHd (l := hdr 0 rs) (j := e.1) (v := HV.ar (rid e.1.toNat) v' 1 0 (l ++ [e.2.2]).length) rfl rfl rfl ty31 rfl rfl rfl hj2 (qah ?_))
        refine l_go (L' := [0, 1, 2, 3, 4, 5, 6, 7, 8, 9, 10, 11, 12, 13]) hF rfl hdone ⟨qaL ⟨rfl, rfl, rfl, rfl, rfl, rfl, rfl, trivial⟩, ?_⟩
        have eh : hdr 0 (rs.set e.1.toNat (v', l ++ [e.2.2])) = (hdr 0 rs).set e.1.toNat (HV.ar (rid e.1.toNat) v' 1 0 (l ++ [e.2.2]).length) := by rw [hdr_set, Nat.zero_add]
        rw [eh]
        refine leH_get ⟨rfl, rfl, rfl, leH_rows _ 0 fun i v m hi => ?_⟩
        show hget ((234012, v12, _) :: hpR v5 v7 v12 Sn e (hdr 0 rs) (rs.set e.1.toNat (v', l ++ [e.2.2]))) _ = _
        rw [Nat.zero_add, qax (by unfold rid; omega), hpR_rid]
        have := hget_rows 0 hi
        rwa [Nat.zero_add] at this
      exact l_take (i := 12) hF rfl rfl rfl (v_idxA ty151 es151 rfl rfl hj rfl) hst
    have hlen : l.length ≤ 100000 := by omega
    have hS : Sn ≤ 1000 := by omega
    have hfl : e.1.toNat < rs.length := (List.getElem?_eq_some_iff.1 hrow).1
    have hhd : (hdr 0 rs)[e.1.toNat * 1]? = some (HV.ar (rid e.1.toNat) rv 1 0 l.length) := by
      have := hdr_get 0 hrow
      rw [Nat.zero_add] at this
      rw [Nat.mul_one]
      exact this
    have hinv := l_inv (F := F) hF rfl 12 (by decide) rfl (fun L s => ∃ v', InvR [(1, hI (sn : Int)), (2, .fptr [hI L0, hI (Sn : Int), slE eFromLabelTo E] 0), (5, .ptr 234005 v5 0), (7, .ptr 234007 v7 0), (14, slE eFromLabelTo E), (15, hI (E.length : Int)), (16, hI (k : Int))] (fun v' k => valR v7 v12 v' Sn e rv l k) (hpR v5 v7 v12 Sn e (hdr 0 rs) rs) (fun v' => hpR v5 v7 v12 Sn e (hdr 0 rs) (rs.set e.1.toNat (v', l ++ [e.2.2]))) v' L s) ?_ ?_ 12 [] ⟨[(1, hI (sn : Int)), (2, .fptr [hI L0, hI (Sn : Int), slE eFromLabelTo E] 0), (5, .ptr 234005 v5 0), (7, .ptr 234007 v7 0), (14, slE eFromLabelTo E), (15, hI (E.length : Int)), (16, hI (k : Int))], hpR v5 v7 v12 Sn e (hdr 0 rs) rs⟩ ⟨0, ⟨?_, (fun k hk => by cases hk), fun id x h => by rw [if_neg (by simp)] at h; exact h⟩⟩ (fun k hk => by cases hk) List.nodup_nil rfl
    · exact hinv
    · -- each operation
      rintro L s i ⟨v', hIq⟩ hi hiL hdeps
      have hb20 : ∀ p ∈ ([(1, hI (sn : Int)), (2, .fptr [hI L0, hI (Sn : Int), slE eFromLabelTo E] 0), (5, .ptr 234005 v5 0), (7, .ptr 234007 v7 0), (14, slE eFromLabelTo E), (15, hI (E.length : Int)), (16, hI (k : Int))] : List (Nat × HV)), p.1 < 20 := by
        intro p hp
        simp only [List.mem_cons, List.not_mem_nil, or_false] at hp
        rcases hp with rfl | rfl | rfl | rfl | rfl | rfl | rfl <;> (dsimp only; omega)
      have h5 : sget s.slots 5 = some (HV.ptr 234005 v5 0) := hIq.base (5, _) (by simp)
      have h7 : sget s.slots 7 = some (HV.ptr 234007 v7 0) := hIq.base (7, _) (by simp)
      have g5 : hget s.heap 234005 = some (v5, .arr 1 151 [.ar 234012 v12 1 0 Sn]) := by
        refine hIq.heap _ _ ?_
        split <;> rfl
      have g12 : hget s.heap 234012 = some (v12, .arr 1 31 (hdr 0 rs)) := by
        refine hIq.heap _ _ ?_
        split <;> rfl
      have g7 : hget s.heap 234007 = some (v7, .arr 3 128 (qa7 e)) := by
        refine hIq.heap _ _ ?_
        split <;> rfl
      have val := hIq.val
      match i, hi with
      | 0, _ => exact l_op rfl rfl rfl (o_val_z rfl (qas ty151 h5 g5 (qam rfl rfl)) (qah ⟨v', hIq.put hb20 (by decide) rfl⟩))
      | 1, _ => exact l_op rfl rfl rfl (o_val_z rfl (qar fo128_0 h7 g7) (qah ⟨v', hIq.put hb20 (by decide) rfl⟩))
      | 2, _ =>
        have q := val 1 (hdeps 1 (by decide)) (by decide)
        exact l_op rfl rfl rfl (o_val_z rfl (qas ty3 q g7 (qam rfl rfl)) (qah ⟨v', hIq.put hb20 (by decide) rfl⟩))
      | 3, _ => exact l_op rfl rfl rfl (o_val_z rfl (qas ty151 h5 g5 (qam rfl rfl)) (qah ⟨v', hIq.put hb20 (by decide) rfl⟩))
      | 4, _ => exact l_op rfl rfl rfl (o_val_z rfl (qar fo128_0 h7 g7) (qah ⟨v', hIq.put hb20 (by decide) rfl⟩))
      | 5, _ =>
        have q := val 4 (hdeps 4 (by decide)) (by decide)
        exact l_op rfl rfl rfl (o_val_z rfl (qas ty3 q g7 (qam rfl rfl)) (qah ⟨v', hIq.put hb20 (by decide) rfl⟩))
      | 6, _ =>
        have q := val 3 (hdeps 3 (by decide)) (by decide)
        have q2 := val 5 (hdeps 5 (by decide)) (by decide)
        exact l_op rfl rfl rfl (o_val_z rfl (v_idxA ty151 es151 q q2 ⟨he1, by omega⟩ g12) (qah ⟨v', hIq.put hb20 (by decide) rfl⟩))
      | 7, _ =>
        have q := val 6 (hdeps 6 (by decide)) (by decide)
        exact l_op rfl rfl rfl (o_val_z rfl (qas ty31 q g12 (qam rfl hhd)) (qah ⟨v', hIq.put hb20 (by decide) rfl⟩))
      | 8, _ => exact l_op rfl rfl rfl (o_val_z rfl (qar fo128_2 h7 g7) (qah ⟨v', hIq.put hb20 (by decide) rfl⟩))
      | 9, _ =>
        have q := val 8 (hdeps 8 (by decide)) (by decide)
        exact l_op rfl rfl rfl (o_val_z rfl (qas ty3 q g7 (qam rfl rfl)) (qah ⟨v', hIq.put hb20 (by decide) rfl⟩))
      | 10, _ =>
        have q := val 9 (hdeps 9 (by decide)) (by decide)
        have q' : s.ev (.tmp 29) = some (hI e.2.2) := q
        exact l_op rfl rfl rfl (o_bsl_z rfl rfl (as_of (cs := [hI e.2.2]) (qs := [(0, hI e.2.2)]) ty31 ty3 rfl (by simp only [aparts, List.mapM_cons, List.mapM_nil, q']; rfl) rfl rfl rfl) (qah ⟨v', hIq.put hb20 (by decide) rfl⟩))
      | 11, _ =>
        have q := val 7 (hdeps 7 (by decide)) (by decide)
        have q2 := val 10 (hdeps 10 (by decide)) (by decide)
        have hr0 : hget s.heap (rid e.1.toNat) = some (rv, .arr 1 3 (eInt.E l)) := by
          refine hIq.heap _ _ ?_
          rw [if_neg hiL, hpR_rid]
          have := hget_rows 0 hrow
          rwa [Nat.zero_add] at this
        refine l_op rfl rfl rfl (o_appE_z eInt (l := l) (m := [e.2.2]) rfl rfl ty31 ty31 ty3 q hr0 q2 rfl rfl ⟨by simp; omega, by simp only [maxLen, List.length_singleton]; omega⟩ (fun v2 => qah ⟨v2, ?_⟩))
        refine ⟨fun p hp => ?_, fun k hk h12 => ?_, fun id x hx => ?_⟩
        · have := hb20 p hp
          show sget ((31, _) :: s.slots) p.1 = _
          simp only [sget]
          rw [if_neg (by omega)]
          exact hIq.base p hp
        · show sget ((31, _) :: s.slots) (20 + k) = _
          simp only [sget]
          by_cases ek : k = 11
          · subst ek
            rfl
          · rw [if_neg (by omega)]
            rcases List.mem_cons.1 hk with h1 | h1
            · exact absurd h1 ek
            · have := val k h1 h12
              rw [this]
              match k, ek, h12 with
              | 0, _, _ | 1, _, _ | 2, _, _ | 3, _, _ | 4, _, _ | 5, _, _ | 6, _, _ | 7, _, _ | 8, _, _ | 9, _, _ | 10, _, _ => rfl
              | 11, h, _ => exact absurd rfl h
        · rw [if_pos (List.mem_cons_self ..)] at hx
          show hget ((rid e.1.toNat, v2, .arr 1 3 (eInt.E (l ++ [e.2.2]))) :: s.heap) id = some x
          by_cases ei : id = rid e.1.toNat
          · subst ei
            rw [hpR_rid] at hx
            have := rows_put (v' := v2) (l' := l ++ [e.2.2]) hrow _ _ hx
            rw [qaX] at this ⊢
            exact this
          · rw [qax ei]
            refine hIq.heap id x ?_
            rw [if_neg hiL]
            by_cases j7 : id = 234007
            · subst j7; exact hx
            by_cases j5 : id = 234005
            · subst j5; exact hx
            by_cases j12 : id = 234012
            · subst j12; exact hx
            rw [qax j7, qax j5, qax j12] at hx ⊢
            have := rows_put (v' := v2) (l' := l ++ [e.2.2]) hrow _ _ hx
            rwa [qax ei] at this
    · -- the rest
      rintro L s ⟨v', hIq⟩ hall
      have h11 : 11 ∈ L := (hall 11).1 (by decide)
      refine l_go (L' := [0, 1, 2, 3, 4, 5, 6, 7, 8, 9, 10, 11]) hF ?_ (hfin v') ⟨?_, fun id x h => hIq.heap id x (by rw [if_pos h11]; exact h)⟩
      · rw [List.all_eq_true]
        intro i _
        by_cases h : i < 12
        · have e1 : L.contains i = true := List.contains_iff_mem.2 ((hall i).1 h)
          rw [e1]
          match i, h with
          | 0, _ | 1, _ | 2, _ | 3, _ | 4, _ | 5, _ | 6, _ | 7, _ | 8, _ | 9, _ | 10, _ | 11, _ => rfl
        · have e1 : L.contains i = false := by
            cases hc : L.contains i with
            | false => rfl
            | true => exact absurd ((hall i).2 (List.contains_iff_mem.1 hc)) h
          have e2 : ([0, 1, 2, 3, 4, 5, 6, 7, 8, 9, 10, 11] : List Nat).contains i = false := by
            cases hc : ([0, 1, 2, 3, 4, 5, 6, 7, 8, 9, 10, 11] : List Nat).contains i with
            | false => rfl
            | true =>
              have := List.contains_iff_mem.1 hc
              simp at this
              omega
          rw [e1, e2]
          rfl
      · refine qaL ⟨hIq.val 0 ((hall 0).1 (by decide)) (by decide), hIq.val 2 ((hall 2).1 (by decide)) (by decide), hIq.val 11 h11 (by decide), ?_⟩
        exact ⟨hIq.base (1, _) (by simp), hIq.base (2, _) (by simp), hIq.base (5, _) (by simp), hIq.base (7, _) (by simp), hIq.base (14, _) (.tail _ (.tail _ (.tail _ (.tail _ (.head _))))), hIq.base (15, _) (by simp), hIq.base (16, _) (by simp), trivial⟩
    · intro p hp
      simp only [List.mem_cons, List.not_mem_nil, or_false] at hp
      rcases hp with rfl | rfl | rfl | rfl | rfl | rfl | rfl <;> rfl
  have hc := of_decide_eq_false hc
  have hkE : k = E.length := by omega
  subst hkE
  rw [List.take_length] at hrw
  refine AW.exit ?_
  refine AW.rgs rfl fun K hK => bv rfl (qad fo27_1 rfl) (bv rfl (qab ty3 rfl (qam rfl rfl)) ?_)
  refine b_op rfl (o_makeE (fid := 234) eBool false 234036 rfl rfl ty189 rfl rfl ty4 rfl rfl (show 0 ≤ (Sn : Int) ∧ (Sn : Int) ≤ (Sn : Int) ∧ (Sn : Int) * ((1 : Nat) : Int) ≤ 281474976710656 by omega) (fun v36 => ?_))
  refine b_op rfl (qbj (fid := 234) (zs := [.v (.slice none 0 0)]) 234008 rfl rfl ty189 rfl (fun v8 => ?_))
  refine b_op rfl (qaH (cs := [.ar 234036 v36 1 0 (List.replicate (Sn : Int).toNat false).length]) (zs := [.ar 234036 v36 1 0 (List.replicate (Sn : Int).toNat false).length]) rfl rfl rfl ty189 rfl rfl rfl rfl rfl ?_)
  refine qah (hK _ (AW.to (qbd (s' := ⟨[(1, hI (sn : Int)), (2, .fptr [hI L0, hI (Sn : Int), slE eFromLabelTo E] 0), (5, .ptr 234005 v5 0), (8, .ptr 234008 v8 0)], (234008, v8, .arr 1 189 [.ar 234036 v36 1 0 (List.replicate (Sn : Int).toNat false).length]) :: (234036, v36, .arr 1 4 (eBool.E (List.replicate (Sn : Int).toNat false))) :: hN v5 v12 Sn (hdr 0 rs) rs⟩) ⟨qaL ⟨rfl, rfl, rfl, rfl, trivial⟩, le_shadow⟩ ?_)))
  simp only [Int.toNat_natCast, List.length_replicate]
  refine AW.rgs rfl fun K hK => b_op rfl (qbj (fid := 234) (zs := [.v .nilFunc]) 234009 rfl rfl ty186 rfl (fun v9 => ?_))
  refine qah (hK _ ?_)
  refine AW.rgs rfl fun K hK => bv rfl (v_func rfl rfl) ?_
  refine b_op rfl (qaH (cs := [.fn (.func 251) [] [.ptr 234008 v8 0, .ptr 234005 v5 0, .ptr 234009 v9 0]]) (zs := [.fn (.func 251) [] [.ptr 234008 v8 0, .ptr 234005 v5 0, .ptr 234009 v9 0]]) rfl rfl rfl ty186 rfl rfl rfl rfl rfl ?_)
  refine qah (hK _ (AW.to (qbd (s' := ⟨[(1, hI (sn : Int)), (8, .ptr 234008 v8 0), (9, .ptr 234009 v9 0)], hR v8 v36 v5 v12 v9 Sn (List.replicate Sn false) rs⟩) ⟨qaL ⟨rfl, rfl, rfl, trivial⟩, leH_get ⟨rfl, rfl, rfl, rfl, rfl, leH_rows _ 0 fun i v l hi => ?_⟩⟩ ?_)))
  · show hget ((234009, v9, _) :: (234009, v9, _) :: (234008, v8, _) :: (234036, v36, _) :: hN v5 v12 Sn (hdr 0 rs) rs) _ = _
    rw [Nat.zero_add, qax (by unfold rid; omega), qax (by unfold rid; omega), qax (by unfold rid; omega), qax (by unfold rid; omega), hN_rid]
    have := hget_rows 0 hi
    rwa [Nat.zero_add] at this
  have hnb : ∀ i, i < Sn → ∀ t ∈ nextK E i, 0 ≤ t ∧ t < (Sn : Int) := fun i _ t ht => by
    obtain ⟨x, hx, rfl⟩ := List.mem_map.1 ht
    exact (hed x (List.mem_filter.1 hx).1).2
  have hnl : ∀ i, i < Sn → (nextK E i).length ≤ 100000 := fun i _ => by
    unfold nextK
    rw [List.length_map]
    exact Nat.le_trans (List.length_filter_le _ _) hE
  have hcnt : (List.replicate Sn false).count false = Sn := by simp
  have hget0 : (List.replicate Sn false).getD sn true = false := by
    rw [List.getD_eq_getElem?_getD, List.getElem?_eq_getElem (by simp; omega)]
    simp
  have hcall := visit_call (v8 := v8) (v36 := v36) (v5 := v5) (v12 := v12) (v9 := v9) hrs (fun i v l hi => (hrw i v l hi).1) hnb hnl (by omega) Sn (List.replicate Sn false) sn (by simp) (by omega) hget0 (by omega)
  have hvl := visitF_len (nextK E) Sn (List.replicate Sn false) sn
  rw [List.length_replicate] at hvl
  generalize hvs : visitF (nextK E) Sn (List.replicate Sn false) sn = vs at hcall hvl
  refine AW.rgs rfl fun K hK => bv rfl (qas ty186 rfl rfl (qam rfl rfl)) (mv rfl rfl ?_)
  refine b_op rfl (o_callA rfl rfl rfl rfl (hcall.mono fun r H' he => ?_))
  obtain ⟨rfl, rfl⟩ := he
  refine qah (hK _ (AW.to (qbd (s' := ⟨[(8, .ptr 234008 v8 0)], hR v8 v36 v5 v12 v9 Sn vs rs⟩) ⟨qaL ⟨rfl, trivial⟩, fun _ _ h => h⟩ ?_)))
  refine AW.rgs rfl fun K hK => bv rfl (qas ty189 rfl rfl (qam rfl rfl)) (mv rfl rfl ?_)
  refine qah (hK _ (AW.to (qbd (s' := ⟨[(4, .ar 234036 v36 eBool.k 0 vs.length)], [(234036, v36, .arr eBool.k 4 (eBool.E vs))]⟩) ⟨qaL ⟨by rw [hvl]; rfl, trivial⟩, leH_get ⟨rfl, trivial⟩⟩ ?_)))
  refine AW.to (to_frz 2 [(234036, v36, .arr eBool.k 4 (eBool.E vs))] ⟨[(4, slE eBool vs)], []⟩ ⟨⟨_, rfl, frz_slE eBool (l := vs) rfl fun _ _ => rfl⟩, trivial⟩ trivial ⟨rfl, trivial⟩ ⟨rfl, trivial⟩ ?_)
  refine AW.ret ?_
  exact qac (.inr rfl) (resT rfl rfl) (by rw [← hvs]; simp [joinR]) (qao fun _ _ => ⟨trivial, trivial⟩)
end Go.AW
namespace Go.AW
open Go
section
variable {P : Program} {s : AS}
end
end Go.AW
namespace Go.AW
open Go Go.Proofs
abbrev FPg (L S : Int) (E : List qaj) : HV := HV.fptr [HV.int .i64 L, HV.int .i64 S, slE eFromLabelTo E] 0
abbrev oRw (v : Nat) (l : List (List Bool)) : AObj := .arr 1 189 ((eSl eBool).E l)
abbrev oLi (l : List Int) : AObj := .arr 1 3 (eInt.E l)
set_option maxHeartbeats 8000000 in
set_option maxRecDepth 100000 in
theorem iy_component_components {p0 : qaa} {L : List (List Int)} (h : y_component_components p0 = some L) : Yields Tryz.prog 233 [] [HV.fptr [HV.int .i64 p0.1, HV.int .i64 p0.2.1, slE eFromLabelTo p0.2.2] 0] (L.map fun x => [slE eInt x]) := by
 unfold y_component_components at h
 split at h
 case isFalse => cases h
 rename_i hok
 have h := Option.some.inj h
 have hS := hok.1
 have hrow0 : ∀ s : Nat, s < p0.2.1.toNat → m_component_reach p0 (s : Int) = some (rowR p0 s) := fun s hs => by
  unfold m_component_reach rowR
  rw [if_pos ⟨hok.1, hok.2.1, ⟨by omega, by omega⟩, hok.2.2⟩, Int.toNat_natCast]
 have hne := fun s (hs : s < p0.2.1.toNat) => lstB_ne hok hs
 obtain ⟨L0, S0, E⟩ := p0
 dsimp only at hS hrow0 hne h ⊢
 obtain ⟨S, rfl⟩ := Int.eq_ofNat_of_zero_le hS.1
 rw [Int.toNat_natCast] at h hrow0 hne
 have hSb : S ≤ 1000 := by omega
 have hlenR : ∀ s, (rowR (L0, ((S : Int), E)) s).length = S := fun s => by rw [rowR_len]; exact Int.toNat_natCast S
 intro id ver H J Stop K hmn h0 hstep hdone hstop
 refine ACall.of_body Tryz.func233 rfl rfl (Nat.le_of_ble_eq_true rfl) ?_
 unfold Tryz.f233
 dsimp only [qaG, Nat.reduceAdd]
 refine AW.rgs rfl fun K1 hK => ?_
 refine mv rfl rfl ?_
 refine qah (hK _ (AW.to (qbd (s' := ⟨[(0, .yl id ver), (1, FPg L0 (S : Int) E), (3, HV.v (.slice none 0 0))], H⟩) (le_slH ⟨rfl, rfl, rfl, trivial⟩) ?_)))
 clear hK K1
 have hiF := freshH_none H
 generalize freshH H = iF at hiF
 refine AW.seqG (fun s' => AS.le s' ⟨[(0, .yl id ver), (1, FPg L0 (S : Int) E), (3, slE (eSl eBool) (rowsR (L0, ((S : Int), E)) S))], H⟩) ?_ ?_
 ·refine AW.rgs rfl fun K1 hK => ?_
  refine bv rfl (qad fo27_1 rfl) ?_
  refine bv rfl (qab ty3 rfl (qam rfl rfl)) ?_
  refine mv rfl rfl ?_
  refine qah (hK _ (AW.to (qbd (s' := ⟨[(0, .yl id ver), (1, FPg L0 (S : Int) E), (3, HV.v (.slice none 0 0)), (9, .int .i64 (S : Int)), (10, .int .i64 0)], H⟩) (le_slH ⟨rfl, rfl, rfl, rfl, rfl, trivial⟩) ?_)))
  clear hK K1
  refine AW.to (to_own iF 3 1 189 rfl fun v0 => ?_)
  refine AW.block ?_
  refine AW.loopS (fun p : Nat × Nat => ⟨[(0, .yl id ver), (1, FPg L0 (S : Int) E), (3, .ar iF p.2 1 0 (rowsR (L0, ((S : Int), E)) p.1).length), (9, .int .i64 (S : Int)), (10, .int .i64 (p.1 : Int))], (iF, p.2, oRw p.2 (rowsR (L0, ((S : Int), E)) p.1)) :: H⟩) (fun p => p.1 ≤ S) (fun p => S - p.1) (0, v0) ⟨qaL ⟨rfl, rfl, rfl, rfl, rfl, trivial⟩, le_hset⟩ (Nat.zero_le _) ?_
  rintro ⟨i, v⟩ hi
  dsimp only at hi ⊢
  have hnxt : IntKind.wrap .i64 ((i : Int) + 1) = ((i + 1 : Nat) : Int) := by rw [w64 (by omega) (by omega)]; omega
  have hrl : (rowsR (L0, ((S : Int), E)) i).length = i := by unfold rowsR; rw [List.length_map, List.length_range]
  refine AW.rgs rfl fun K1 hK => ?_
  refine bv rfl (qaf rfl rfl b_lss) ?_
  refine qah (hK _ (AW.to (qbd (s' := ⟨[(0, .yl id ver), (1, FPg L0 (S : Int) E), (3, .ar iF v 1 0 (rowsR (L0, ((S : Int), E)) i).length), (9, .int .i64 (S : Int)), (10, .int .i64 (i : Int)), (11, .bool (decide ((i : Int) < (S : Int))))], (iF, v, oRw v (rowsR (L0, ((S : Int), E)) i)) :: H⟩) (le_slH ⟨rfl, rfl, rfl, rfl, rfl, rfl, trivial⟩) ?_)))
  clear hK K1
  refine AW.cseq rfl (fun hc => ?_) (fun hc => ?_)
  ·have hc := of_decide_eq_true hc
   have his : i < S := by omega
   have hrs : rowsR (L0, ((S : Int), E)) (i + 1) = rowsR (L0, ((S : Int), E)) i ++ [rowR (L0, ((S : Int), E)) i] := by unfold rowsR; rw [List.range_succ, List.map_append]; rfl
   refine AW.skip ?_
   refine AW.seq (AW.block ?_)
   refine AW.rgs rfl fun K1 hK => ?_
   refine mv rfl rfl ?_
   refine mv rfl rfl ?_
   refine qah (hK _ (AW.to (qbd (s' := ⟨[(0, .yl id ver), (1, FPg L0 (S : Int) E), (3, .ar iF v 1 0 (rowsR (L0, ((S : Int), E)) i).length), (4, .int .i64 (i : Int)), (9, .int .i64 (S : Int)), (10, .int .i64 (i : Int))], (iF, v, oRw v (rowsR (L0, ((S : Int), E)) i)) :: H⟩) (le_slH ⟨rfl, rfl, rfl, rfl, rfl, rfl, trivial⟩) ?_)))
   clear hK K1
   have hr := hrow0 i his
   refine AW.rg rfl fun K1 hK => ?_
   refine mv rfl rfl ?_
   refine bv rfl (qab ty27 rfl (qaz rfl (Nat.le_of_ble_eq_true rfl) rfl)) ?_
   refine mv rfl rfl ?_
   refine b_op rfl (qay rfl rfl rfl rfl (ACallD.pure0 (w_component_reach hr)) ?_)
   refine b_op rfl (o_bsl rfl rfl (as_of (cs := [slE eBool (rowR (L0, ((S : Int), E)) i)]) ty188 ty189 rfl rfl rfl rfl rfl) ?_)
   refine b_op rfl (o_appE (eSl eBool) (l := rowsR (L0, ((S : Int), E)) i) (m := [rowR (L0, ((S : Int), E)) i]) rfl rfl ty188 ty188 ty189 rfl qaX rfl rfl rfl ⟨by simp; omega, by simp only [maxLen, List.length_singleton]; omega⟩ (fun v2 => ?_))
   refine mv rfl rfl ?_
   refine qah (hK _ (AW.to (qbd (s' := ⟨[(0, .yl id ver), (1, FPg L0 (S : Int) E), (3, .ar iF v2 1 0 (rowsR (L0, ((S : Int), E)) (i + 1)).length), (9, .int .i64 (S : Int)), (10, .int .i64 (i : Int))], (iF, v2, oRw v2 (rowsR (L0, ((S : Int), E)) (i + 1))) :: H⟩) ⟨qaL ⟨rfl, rfl, by rw [hrs]; rfl, rfl, rfl, trivial⟩, by rw [hrs]; exact le_again⟩ ?_)))
   clear hK K1
   refine AW.rg rfl fun K1 hK => ?_
   refine bv rfl (qaf rfl rfl b_add) ?_
   rw [hnxt]
   refine mv rfl rfl ?_
   refine qah (hK _ ?_)
   exact ⟨(i + 1, v2), by dsimp only; omega, by dsimp only; omega, ⟨qaL ⟨rfl, rfl, rfl, rfl, rfl, trivial⟩, fun _ _ h => h⟩⟩
  ·have hc := of_decide_eq_false hc
   obtain rfl : i = S := by omega
   refine AW.to (to_frzH 2 [(iF, v, oRw v (rowsR (L0, ((i : Int), E)) i))] ⟨[(0, .yl id ver), (1, FPg L0 (i : Int) E), (3, slE (eSl eBool) (rowsR (L0, ((i : Int), E)) i))], H⟩ ⟨⟨_, rfl, rfl⟩, ⟨_, rfl, rfl⟩, ⟨_, rfl, frz_slE (eSl eBool) qaX fun _ _ => rfl⟩, trivial⟩ (le_fresh hiF) (fun j x hx => ?_) (fun j x hx => ?_) ?_)
   ·by_cases e : j = iF
    ·subst e; rw [qaX] at hx ⊢; exact hx
    ·rw [qax e] at hx; cases hx
   ·by_cases e : j = iF
    ·subst e; exact hiF
    ·rw [qax e] at hx; cases hx
   ·exact AW.exit ⟨rfl, AS.le_refl _⟩
 ·intro s0 hle0
  refine AW.to (qbd hle0 ?_)
  clear hle0 s0 hiF iF
  generalize hg : ((L0, ((S : Int), E)) : qaa) = g at *
  have hgS : g.2.1.toNat = S := by rw [← hg]; exact Int.toNat_natCast S
  have hlenC : ∀ n, (compB g n).length ≤ n := fun n => by
   unfold compB
   rw [List.length_map]
   exact Nat.le_trans (List.length_filter_le _ _) (by simp)
  refine AW.rgs rfl fun K1 hK => ?_
  refine bv rfl (qad fo27_1 rfl) ?_
  refine bv rfl (qab ty3 rfl (qam rfl rfl)) ?_
  refine mv rfl rfl ?_
  refine qah (hK _ (AW.to (qbd (s' := ⟨[(0, .yl id ver), (1, FPg L0 (S : Int) E), (3, slE (eSl eBool) (rowsR g S)), (21, .int .i64 (S : Int)), (22, .int .i64 ((0 : Nat) : Int))], H⟩) (le_slH ⟨rfl, rfl, rfl, rfl, rfl, trivial⟩) ?_)))
  clear hK K1
  refine AW.block ?_
  refine AW.loopS (fun p : Nat × Heap => ⟨[(0, .yl id ver), (1, FPg L0 (S : Int) E), (3, slE (eSl eBool) (rowsR g S)), (21, .int .i64 (S : Int)), (22, .int .i64 (p.1 : Int))], p.2⟩) (fun p => p.1 ≤ S ∧ J (compB g p.1).length p.2) (fun p => S - p.1) (0, H) (AS.le_refl _) ⟨Nat.zero_le _, h0⟩ ?_
  rintro ⟨s, H1⟩ ⟨hs, hj⟩
  dsimp only at hs hj ⊢
  have hnxt : IntKind.wrap .i64 ((s : Int) + 1) = ((s + 1 : Nat) : Int) := by rw [w64 (by omega) (by omega)]; omega
  refine AW.rgs rfl fun K1 hK => ?_
  refine bv rfl (qaf rfl rfl b_lss) ?_
  refine qah (hK _ (AW.to (qbd (s' := ⟨[(0, .yl id ver), (1, FPg L0 (S : Int) E), (3, slE (eSl eBool) (rowsR g S)), (21, .int .i64 (S : Int)), (22, .int .i64 (s : Int)), (23, .bool (decide ((s : Int) < (S : Int))))], H1⟩) (le_slH ⟨rfl, rfl, rfl, rfl, rfl, rfl, trivial⟩) ?_)))
  clear hK K1
  refine AW.cseq rfl (fun hc => ?_) (fun hc => ?_)
  ·have hc := of_decide_eq_true hc
   have hsS : s < S := by omega
   have hrw : ∀ t, t < S → idx (rowsR g S) (t : Int) = some (rowR g t) := fun t ht => by
    unfold rowsR
    rw [idx_nat, List.getElem?_map, List.getElem?_range ht]
    rfl
   have hrb : ∀ t u, u < S → idx (rowR g t) (u : Int) = some ((rowR g t).getD u false) := fun t u hu => by
    rw [idx_nat, List.getD_eq_getElem?_getD, List.getElem?_eq_getElem (by rw [hlenR]; exact hu)]
    rfl
   refine AW.skip ?_
   refine AW.seq (AW.block ?_)
   refine AW.rgs rfl fun K1 hK => ?_
   refine mv rfl rfl ?_
   refine mv rfl rfl ?_
   refine qah (hK _ ?_)
   clear hK K1
   refine AW.rgs rfl fun K1 hK => ?_
   refine mv rfl rfl ?_
   refine qah (hK _ (AW.to (qbd (s' := ⟨[(0, .yl id ver), (1, FPg L0 (S : Int) E), (3, slE (eSl eBool) (rowsR g S)), (5, .int .i64 (s : Int)), (6, HV.v (.slice none 0 0)), (21, .int .i64 (S : Int)), (22, .int .i64 (s : Int))], H1⟩) (le_slH ⟨rfl, rfl, rfl, rfl, rfl, rfl, rfl, trivial⟩) ?_)))
   clear hK K1
   have hiL := freshH_none H1
   generalize freshH H1 = iL at hiL
   refine AW.seqG (fun s' => AS.le s' ⟨[(0, .yl id ver), (1, FPg L0 (S : Int) E), (3, slE (eSl eBool) (rowsR g S)), (5, .int .i64 (s : Int)), (6, slE eInt (lstB g s S)), (21, .int .i64 (S : Int)), (22, .int .i64 (s : Int))], H1⟩) ?_ ?_
   ·refine AW.rgs rfl fun K1 hK => ?_
    refine bv rfl (qad fo27_1 rfl) ?_
    refine bv rfl (qab ty3 rfl (qam rfl rfl)) ?_
    refine mv rfl rfl ?_
    refine qah (hK _ (AW.to (qbd (s' := ⟨[(0, .yl id ver), (1, FPg L0 (S : Int) E), (3, slE (eSl eBool) (rowsR g S)), (5, .int .i64 (s : Int)), (6, HV.v (.slice none 0 0)), (21, .int .i64 (S : Int)), (22, .int .i64 (s : Int)), (26, .int .i64 (S : Int)), (27, .int .i64 0)], H1⟩) (le_slH ⟨rfl, rfl, rfl, rfl, rfl, rfl, rfl, rfl, rfl, trivial⟩) ?_)))
    clear hK K1
    refine AW.to (to_own iL 6 1 3 rfl fun v0 => ?_)
    refine AW.block ?_
    refine AW.loopS (fun p : Nat × Nat => ⟨[(0, .yl id ver), (1, FPg L0 (S : Int) E), (3, slE (eSl eBool) (rowsR g S)), (5, .int .i64 (s : Int)), (6, .ar iL p.2 1 0 (lstB g s p.1).length), (21, .int .i64 (S : Int)), (22, .int .i64 (s : Int)), (26, .int .i64 (S : Int)), (27, .int .i64 (p.1 : Int))], (iL, p.2, oLi (lstB g s p.1)) :: H1⟩) (fun p => p.1 ≤ S) (fun p => S - p.1) (0, v0) ⟨qaL ⟨rfl, rfl, rfl, rfl, rfl, rfl, rfl, rfl, rfl, trivial⟩, le_hset⟩ (Nat.zero_le _) ?_
    rintro ⟨t, v⟩ ht
    dsimp only at ht ⊢
    have hnxt2 : IntKind.wrap .i64 ((t : Int) + 1) = ((t + 1 : Nat) : Int) := by rw [w64 (by omega) (by omega)]; omega
    have hll := lstB_len g s t
    refine AW.rgs rfl fun K1 hK => ?_
    refine bv rfl (qaf rfl rfl b_lss) ?_
    refine qah (hK _ (AW.to (qbd (s' := ⟨[(0, .yl id ver), (1, FPg L0 (S : Int) E), (3, slE (eSl eBool) (rowsR g S)), (5, .int .i64 (s : Int)), (6, .ar iL v 1 0 (lstB g s t).length), (21, .int .i64 (S : Int)), (22, .int .i64 (s : Int)), (26, .int .i64 (S : Int)), (27, .int .i64 (t : Int)), (28, .bool (decide ((t : Int) < (S : Int))))], (iL, v, oLi (lstB g s t)) :: H1⟩) (le_slH ⟨rfl, rfl, rfl, rfl, rfl, rfl, rfl, rfl, rfl, rfl, trivial⟩) ?_)))
    clear hK K1
    refine AW.cseq rfl (fun hc => ?_) (fun hc => ?_)
    ·have hc := of_decide_eq_true hc
     have htS : t < S := by omega
     refine AW.skip ?_
     refine AW.seqG (fun s' => ∃ v', AS.le s' ⟨[(0, .yl id ver), (1, FPg L0 (S : Int) E), (3, slE (eSl eBool) (rowsR g S)), (5, .int .i64 (s : Int)), (6, .ar iL v' 1 0 (lstB g s (t + 1)).length), (21, .int .i64 (S : Int)), (22, .int .i64 (s : Int)), (26, .int .i64 (S : Int)), (27, .int .i64 (t : Int))], (iL, v', oLi (lstB g s (t + 1))) :: H1⟩) (AW.block ?_) ?_
     ·refine AW.rgs rfl fun K1 hK => ?_
      refine mv rfl rfl ?_
      refine mv rfl rfl ?_
      refine qah (hK _ (AW.to (qbd (s' := ⟨[(0, .yl id ver), (1, FPg L0 (S : Int) E), (3, slE (eSl eBool) (rowsR g S)), (5, .int .i64 (s : Int)), (6, .ar iL v 1 0 (lstB g s t).length), (7, .int .i64 (t : Int)), (21, .int .i64 (S : Int)), (22, .int .i64 (s : Int)), (26, .int .i64 (S : Int)), (27, .int .i64 (t : Int))], (iL, v, oLi (lstB g s t)) :: H1⟩) (le_slH ⟨rfl, rfl, rfl, rfl, rfl, rfl, rfl, rfl, rfl, rfl, trivial⟩) ?_)))
      clear hK K1
      refine AW.rgs rfl fun K1 hK => ?_
      refine mv rfl rfl ?_
      refine mv rfl rfl ?_
      refine bv rfl (qaW ty188 es188 rfl rfl (qaO (hrw s hsS))) ?_
      refine bv rfl (qab ty189 rfl (qaZ (eSl eBool) (hrw s hsS) (o := 0) rfl rfl)) ?_
      refine mv rfl rfl ?_
      refine bv rfl (qaW ty189 es189 rfl rfl (qaO (hrb s t htS))) ?_
      refine bv rfl (qab ty4 rfl (qaZ eBool (hrb s t htS) (o := 0) rfl rfl)) ?_
      refine mv rfl rfl ?_
      have fin : ∀ b : Bool, b = inC g s t → K1 ⟨[(0, .yl id ver), (1, FPg L0 (S : Int) E), (3, slE (eSl eBool) (rowsR g S)), (5, .int .i64 (s : Int)), (6, .ar iL v 1 0 (lstB g s t).length), (7, .int .i64 (t : Int)), (21, .int .i64 (S : Int)), (22, .int .i64 (s : Int)), (26, .int .i64 (S : Int)), (27, .int .i64 (t : Int)), (45, .bool b)], (iL, v, oLi (lstB g s t)) :: H1⟩ := by
       intro b hb
       refine hK _ ?_
       clear hK K1
       have hls := lstB_succ g s t
       rw [← hb] at hls
       refine AW.cond rfl (fun hc => ?_) (fun hc => ?_)
       ·rw [if_pos hc] at hls
        refine AW.rg rfl fun K1 hK => ?_
        refine mv rfl rfl ?_
        refine mv rfl rfl ?_
        refine b_op rfl (o_bsl rfl rfl (as_of (cs := [HV.int .i64 (t : Int)]) ty31 ty3 rfl rfl rfl rfl rfl) ?_)
        refine b_op rfl (o_appE eInt (l := lstB g s t) (m := [(t : Int)]) rfl rfl ty31 ty31 ty3 rfl qaX rfl rfl rfl ⟨by simp; omega, by simp only [maxLen, List.length_singleton]; omega⟩ (fun v2 => ?_))
        refine mv rfl rfl ?_
        refine qah (hK _ ⟨rfl, v2, ?_⟩)
        rw [hls]
        exact ⟨qaL ⟨rfl, rfl, rfl, rfl, rfl, rfl, rfl, rfl, rfl, trivial⟩, le_again⟩
       ·rw [if_neg (by rw [hc]; decide)] at hls
        refine AW.skip ⟨rfl, v, ?_⟩
        rw [hls]
        exact ⟨qaL ⟨rfl, rfl, rfl, rfl, rfl, rfl, rfl, rfl, rfl, trivial⟩, fun _ _ h => h⟩
      by_cases hb : (rowR g s).getD t false = true
      ·refine b_T rfl rfl rfl rfl hb (qai rfl (qaR rfl rfl).2 ?_)
       refine b_T rfl rfl rfl rfl rfl (qai rfl (qaR rfl rfl).2 ?_)
       refine b_T rfl rfl rfl rfl rfl (qai rfl (qaW ty188 es188 rfl rfl (qaO (hrw t htS))) ?_)
       refine b_T rfl rfl rfl rfl rfl (qai rfl (qab ty189 rfl (qaZ (eSl eBool) (hrw t htS) (o := 0) rfl rfl)) ?_)
       refine b_T rfl rfl rfl rfl rfl (qai rfl (qaR rfl rfl).2 ?_)
       refine b_T rfl rfl rfl rfl rfl (qai rfl (qaW ty189 es189 rfl rfl (qaO (hrb t s hsS))) ?_)
       refine b_T rfl rfl rfl rfl rfl (qai rfl (qab ty4 rfl (qaZ eBool (hrb t s hsS) (o := 0) rfl rfl)) ?_)
       refine bv rfl (qak rfl rfl rfl) ?_
       refine qbs (s' := ⟨[(0, .yl id ver), (1, FPg L0 (S : Int) E), (3, slE (eSl eBool) (rowsR g S)), (5, .int .i64 (s : Int)), (6, .ar iL v 1 0 (lstB g s t).length), (7, .int .i64 (t : Int)), (21, .int .i64 (S : Int)), (22, .int .i64 (s : Int)), (26, .int .i64 (S : Int)), (27, .int .i64 (t : Int)), (45, .bool ((rowR g t).getD s false))], (iL, v, oLi (lstB g s t)) :: H1⟩) (le_slH ⟨rfl, rfl, rfl, rfl, rfl, rfl, rfl, rfl, rfl, rfl, rfl, trivial⟩) ?_
       exact qah (fin _ (by unfold inC; rw [hb, Bool.true_and]))
      ·have hb : (rowR g s).getD t false = false := by simpa using hb
       refine b_F rfl rfl rfl rfl rfl hb ?_
       refine b_F rfl rfl rfl rfl rfl rfl ?_
       refine b_F rfl rfl rfl rfl rfl rfl ?_
       refine b_F rfl rfl rfl rfl rfl rfl ?_
       refine b_F rfl rfl rfl rfl rfl rfl ?_
       refine b_F rfl rfl rfl rfl rfl rfl ?_
       refine b_F rfl rfl rfl rfl rfl rfl ?_
       refine bv rfl (qan rfl rfl rfl) ?_
       refine qbs (s' := ⟨[(0, .yl id ver), (1, FPg L0 (S : Int) E), (3, slE (eSl eBool) (rowsR g S)), (5, .int .i64 (s : Int)), (6, .ar iL v 1 0 (lstB g s t).length), (7, .int .i64 (t : Int)), (21, .int .i64 (S : Int)), (22, .int .i64 (s : Int)), (26, .int .i64 (S : Int)), (27, .int .i64 (t : Int)), (45, .bool false)], (iL, v, oLi (lstB g s t)) :: H1⟩) (le_slH ⟨rfl, rfl, rfl, rfl, rfl, rfl, rfl, rfl, rfl, rfl, rfl, trivial⟩) ?_
       exact qah (fin _ (by unfold inC; rw [hb, Bool.false_and]))
     ·rintro s2 ⟨v2, hle2⟩
      refine AW.to (qbd hle2 ?_)
      refine AW.rg rfl fun K1 hK => ?_
      refine bv rfl (qaf rfl rfl b_add) ?_
      rw [hnxt2]
      refine mv rfl rfl ?_
      refine qah (hK _ ?_)
      exact ⟨(t + 1, v2), by dsimp only; omega, by dsimp only; omega, ⟨qaL ⟨rfl, rfl, rfl, rfl, rfl, rfl, rfl, rfl, rfl, trivial⟩, fun _ _ h => h⟩⟩
    ·have hc := of_decide_eq_false hc
     obtain rfl : t = S := by omega
     refine AW.to (to_frzH 2 [(iL, v, oLi (lstB g s t))] ⟨[(0, .yl id ver), (1, FPg L0 (t : Int) E), (3, slE (eSl eBool) (rowsR g t)), (5, .int .i64 (s : Int)), (6, slE eInt (lstB g s t)), (21, .int .i64 (t : Int)), (22, .int .i64 (s : Int))], H1⟩ ⟨⟨_, rfl, rfl⟩, ⟨_, rfl, rfl⟩, ⟨_, rfl, rfl⟩, ⟨_, rfl, rfl⟩, ⟨_, rfl, frz_slE eInt qaX fun _ _ => rfl⟩, ⟨_, rfl, rfl⟩, ⟨_, rfl, rfl⟩, trivial⟩ (le_fresh hiL) (fun j x hx => ?_) (fun j x hx => ?_) ?_)
     ·by_cases e : j = iL
      ·subst e; rw [qaX] at hx ⊢; exact hx
      ·rw [qax e] at hx; cases hx
     ·by_cases e : j = iL
      ·subst e; exact hiL
      ·rw [qax e] at hx; cases hx
     ·exact AW.exit ⟨rfl, AS.le_refl _⟩
   ·intro s1 hle1
    refine AW.to (qbd hle1 ?_)
    clear hle1 s1 hiL iL
    have hnes := hne s hsS
    obtain ⟨x0, hx0⟩ := hnes
    have hix : idx (lstB g s S) (0 : Int) = some x0 := hx0
    have hhd : (lstB g s S).head? = some x0 := by rw [List.head?_eq_getElem?]; exact hx0
    have hcs := compB_succ g s
    rw [hgS, hhd] at hcs
    refine AW.rgs rfl fun K1 hK => ?_
    refine mv rfl rfl ?_
    refine bv rfl (qaW ty31 es31 rfl rfl (qaO hix)) ?_
    refine bv rfl (qab ty3 rfl (qaZ eInt hix (o := 0) rfl rfl)) ?_
    refine mv rfl rfl ?_
    refine bv rfl (qaf rfl rfl b_eql) ?_
    refine mv rfl rfl ?_
    by_cases hx : x0 = (s : Int)
    ·rw [if_pos (by rw [hx])] at hcs
     refine b_T rfl rfl rfl rfl (decide_eq_true hx) (qai rfl (qaR rfl rfl).2 ?_)
     refine b_T rfl rfl rfl rfl rfl (qai rfl (qaR rfl rfl).2 ?_)
     refine b_T rfl rfl rfl rfl rfl (o_yield (hs := [slE eInt (lstB g s S)]) rfl rfl rfl ?_)
     obtain ⟨l2, hl2⟩ := compB_pre g (show s + 1 ≤ S by omega)
     refine (hstep (compB g s).length [slE eInt (lstB g s S)] _ ?_ hj).mono ?_
     ·rw [← h, List.getElem?_map, hl2, hcs, List.append_assoc, List.getElem?_append_right (Nat.le_refl _), Nat.sub_self]
      rfl
     rintro r H2 ⟨b, rfl, h3, h4⟩
     refine b_T rfl rfl rfl rfl rfl (qai rfl (v_not rfl) ?_)
     refine bv rfl (qak rfl rfl rfl) ?_
     refine qah (hK _ (AW.to (qbd (s' := ⟨[(0, .yl id ver), (1, FPg L0 (S : Int) E), (3, slE (eSl eBool) (rowsR g S)), (21, .int .i64 (S : Int)), (22, .int .i64 (s : Int)), (61, .bool (!b))], H2⟩) (le_slH ⟨rfl, rfl, rfl, rfl, rfl, rfl, trivial⟩) ?_)))
     clear hK K1
     refine AW.cond rfl (fun hc => ?_) (fun hc => ?_)
     ·have hb : b = false := by simpa using hc
      refine AW.ret ⟨.inr rfl, ?_⟩
      simp only [go_sem, reduceIte, Nat.reduceEqDiff]
      exact ⟨_, _, Conv.refl _ _, hstop _ (h4 hb)⟩
     ·have hb : b = true := by simpa using hc
      refine AW.skip ?_
      refine AW.rg rfl fun K1 hK => ?_
      refine bv rfl (qaf rfl rfl b_add) ?_
      rw [hnxt]
      refine mv rfl rfl ?_
      refine qah (hK _ ?_)
      refine ⟨(s + 1, H2), ⟨by dsimp only; omega, ?_⟩, by dsimp only; omega, ⟨qaL ⟨rfl, rfl, rfl, rfl, rfl, trivial⟩, fun _ _ h => h⟩⟩
      have := h3 hb
      rw [hcs, List.length_append]
      exact this
    ·rw [if_neg (fun e => hx (Option.some.inj e))] at hcs
     refine b_F rfl rfl rfl rfl rfl (decide_eq_false hx) ?_
     refine b_F rfl rfl rfl rfl rfl rfl ?_
     refine b_F rfl rfl rfl rfl rfl rfl ?_
     refine b_F rfl rfl rfl rfl rfl rfl ?_
     refine bv rfl (qan rfl rfl rfl) ?_
     refine qah (hK _ (AW.to (qbd (s' := ⟨[(0, .yl id ver), (1, FPg L0 (S : Int) E), (3, slE (eSl eBool) (rowsR g S)), (21, .int .i64 (S : Int)), (22, .int .i64 (s : Int)), (61, .bool false)], H1⟩) (le_slH ⟨rfl, rfl, rfl, rfl, rfl, rfl, trivial⟩) ?_)))
     clear hK K1
     refine AW.cond rfl (fun hc => by cases hc) (fun _ => ?_)
     refine AW.skip ?_
     refine AW.rg rfl fun K1 hK => ?_
     refine bv rfl (qaf rfl rfl b_add) ?_
     rw [hnxt]
     refine mv rfl rfl ?_
     refine qah (hK _ ?_)
     refine ⟨(s + 1, H1), ⟨by dsimp only; omega, ?_⟩, by dsimp only; omega, ⟨qaL ⟨rfl, rfl, rfl, rfl, rfl, trivial⟩, fun _ _ h => h⟩⟩
     dsimp only
     rw [hcs]
     exact hj
  ·have hc := of_decide_eq_false hc
   obtain rfl : s = S := by omega
   refine AW.exit ?_
   refine ⟨.inl rfl, ?_⟩
   simp only [go_sem, reduceIte, Nat.reduceEqDiff]
   refine ⟨_, _, Conv.refl _ _, hdone _ ?_⟩
   rw [List.length_map, ← h]
   exact hj
theorem pick_key {vis rest ks : List (List UInt8)} {k : List UInt8} (hp : (vis ++ rest).Perm ks) (hm : k ∈ ks) (hk : k ∉ vis) : ∃ l1 l2, rest = l1 ++ k :: l2 ∧ ((k :: vis) ++ (l1 ++ l2)).Perm ks := by
 have hx : k ∈ rest := (List.mem_append.1 (hp.mem_iff.2 hm)).resolve_left hk
 obtain ⟨l1, l2, rfl⟩ := List.append_of_mem hx
 refine ⟨l1, l2, rfl, List.Perm.trans ?_ hp⟩
 have e1 : (k :: vis) ++ (l1 ++ l2) = k :: ((vis ++ l1) ++ l2) := by simp
 have e2 : vis ++ (l1 ++ k :: l2) = (vis ++ l1) ++ k :: l2 := by simp
 rw [e1, e2]
 exact List.perm_middle.symm
theorem no_rest {vis rest ks : List (List UInt8)} (hn : ks.Nodup) (hp : (vis ++ rest).Perm ks) (hall : ∀ k ∈ ks, k ∈ vis) : rest = [] := by
 cases rest with
 | nil => rfl
 | cons x rest =>
  have h1 := hp.nodup_iff.2 hn
  have hx : x ∈ vis := hall x (hp.mem_iff.1 (by simp))
  exact absurd rfl ((List.nodup_append.1 h1).2.2 x hx x (List.mem_cons_self ..))
theorem w127 {f mid mver lid lver : Nat} {es : List (List UInt8 × HV)} {H : Heap} {K : HV → Heap → Prop} (hn : (es.map (·.1)).Nodup) (hne : f * 1000 + 5 ≠ mid) (hm : hget H mid = some (mver, .map es)) (J : Nat → List (List UInt8) → Heap → Prop)
  (hJm : ∀ iv vis H, J iv vis H → hget H mid = some (mver, .map es)) (hJi : ∀ iv vis H, J iv vis H → ∃ cur, hget H (f * 1000 + 5) = some (iv, .iter mid mver vis cur))
  (h0 : ∀ iv, J iv [] (hset H (f * 1000 + 5) iv (.iter mid mver [] false)))
  (hstep : ∀ iv vis k H, J iv vis H → k ∈ es.map (·.1) → k ∉ vis → vis.length < es.length → YCall Tryz.prog lid lver [.str k] (hset H (f * 1000 + 5) iv (.iter mid mver (k :: vis) true)) fun r H' => r = .bool true ∧ J iv (k :: vis) H')
  (hdone : ∀ iv vis H, J iv vis H → vis.Perm (es.map (·.1)) → K (.tup []) H) : ACall Tryz.prog 186 [.yl lid lver, .fptr [.mp mid mver] 0] H K := by
 refine ACall.of_body Tryz.func186 rfl rfl (Nat.le_of_ble_eq_true rfl) ?_
 unfold Tryz.f186
 dsimp only [qaG, Nat.reduceAdd]
 refine AW.rseq (fid := f) (mt := []) [0, 5] rfl fun K1 hK1 => ?_
 simp only [go_sem, reduceIte, Nat.reduceEqDiff, Int.reduceLE, List.getElem?_cons_zero, hm]
 refine ⟨hne, fun iv => hK1 _ ?_⟩
 clear hK1 K1
 refine AW.block ?_
 refine AW.loopS (fun p : List (List UInt8) × List (List UInt8) × Heap => ⟨[(0, .yl lid lver), (5, .it (f * 1000 + 5) iv)], p.2.2⟩) (fun p => (p.1 ++ p.2.1).Perm (es.map (·.1)) ∧ J iv p.1 p.2.2) (fun p => p.2.1.length) ([], es.map (·.1), _)
  (AS.le_refl _) ⟨List.Perm.refl _, h0 iv⟩ ?_
 rintro ⟨vis, rest, H1⟩ ⟨hp, hj⟩
 dsimp only at hp hj ⊢
 have hm1 := hJm _ _ _ hj
 obtain ⟨cur, hi1⟩ := hJi _ _ _ hj
 refine AW.rseq (fid := f) (mt := []) [0, 5, 7] rfl fun K1 hK1 => ?_
 simp only [go_sem, reduceIte, Nat.reduceEqDiff, Int.reduceLE, hi1, hm1, List.getElem?_cons_zero]
 refine ⟨fun hall => hK1 _ ?_, fun k v hkv hks => hK1 _ ?_⟩
 ·clear hK1 K1
  have hr := no_rest hn hp fun k hk => by
   obtain ⟨q, hq, rfl⟩ := List.mem_map.1 hk
   exact hall q hq
  subst hr
  rw [List.append_nil] at hp
  refine AW.cseq rfl (fun hc => by cases hc) (fun _ => ?_)
  refine AW.exit ?_
  refine ⟨.inl rfl, ?_⟩
  simp only [go_sem, reduceIte, Nat.reduceEqDiff]
  exact ⟨_, _, Conv.refl _ _, hdone _ _ _ hj hp⟩
 ·clear hK1 K1
  have hk : k ∈ es.map (·.1) := List.mem_map.2 ⟨_, hkv, rfl⟩
  obtain ⟨l1, l2, rfl, hp'⟩ := pick_key hp hk hks
  refine AW.cseq rfl (fun _ => ?_) (fun hc => by cases hc)
  refine AW.skip ?_
  refine AW.block ?_
  refine AW.rseq (fid := f) (mt := []) [0, 3, 5] rfl fun K1 hK1 => ?_
  simp only [go_sem, reduceIte, Nat.reduceEqDiff, Int.reduceLE, qag, hm1, if_neg (Ne.symm hne), List.getElem?_cons_zero]
  refine ⟨v, alook_mem hn hkv, hK1 _ ?_⟩
  clear hK1 K1
  refine AW.rseq (fid := f) (mt := []) [0, 5, 13] rfl fun K1 hK1 => ?_
  simp only [go_sem, reduceIte, Nat.reduceEqDiff, Int.reduceLE]
  refine (hstep iv vis k H1 hj hk hks (by have := hp.length_eq; simp at this; omega)).mono ?_
  rintro r H2 ⟨rfl, hj2⟩
  simp only [go_sem, reduceIte, Nat.reduceEqDiff, Int.reduceLE]
  refine hK1 _ ?_
  clear hK1 K1
  refine AW.cond rfl (fun hc => by cases hc) (fun _ => ?_)
  refine AW.skip ?_
  exact ⟨(k :: vis, l1 ++ l2, H2), ⟨hp', hj2⟩, by simp, ⟨qaL ⟨rfl, rfl, trivial⟩, fun _ _ h => h⟩⟩
theorem AW.rangeFuncL {P : Program} {N : Nat} {s : AS} {Q : Exit → AS → Prop} {g : Operand} {ps : Array Tmp} {assign body : Code} {f : FuncId} {fs cs : List HV} (id : Nat) (hg : s.ev g = some (.fn (.func f) fs cs))
  (h : ∀ fn ver (L : LoopState → Option Code → AObj), (∀ st pend, L st pend = .loop st pend fn N s.slots ps assign body) → ACall P f (fs ++ [.yl id ver] ++ cs) (hset s.heap id ver (L .ready none)) fun _ H' =>
   ∃ st pend, hget H' id = some (ver, L st pend) ∧ st ≠ .busy ∧ match pend with
    | none => Q .normal { s with heap := hset H' id ver (L .exhausted none) }
    | some c => AW P none N c Q { s with heap := hset H' id ver (L .exhausted (some c)) }) :
  AW P none N (.rangeFunc g ps assign body) Q s :=
 AW.rangeFunc id hg fun fn ver => h fn ver (fun st pend => .loop st pend fn N s.slots ps assign body) fun _ _ => rfl
set_option maxHeartbeats 1000000 in
theorem w160 {f mid mver : Nat} {es : List (List UInt8 × HV)} (hn : (es.map (·.1)).Nodup) (hbig : es.length ≤ 1099511627776) (h2 : f * 1000 + 2 ≠ mid) (h5 : f * 1000 + 5 ≠ mid) (h11 : f * 1000 + 11 ≠ mid) (h9 : f * 1000 + 900 ≠ mid) :
  ACall Tryz.prog 213 [.v (.slice none 0 0), .fn (.func 186) [] [.fptr [.mp mid mver] 0]] [(mid, mver, .map es)] fun r H' => ∃ l, l.Perm (es.map (·.1)) ∧ ((l = [] ∧ r = .v (.slice none 0 0) ∧ H' = []) ∨
   ∃ id av, l ≠ [] ∧ r = .ar id av 1 0 l.length ∧ H' = [(id, av, .arr 1 9 (l.map .str))]) := by
 refine ACall.of_body Tryz.func213 rfl rfl (Nat.le_of_ble_eq_true rfl) ?_
 unfold Tryz.f213
 dsimp only [qaG, Nat.reduceAdd]
 refine AW.rseq (fid := f) (mt := [2]) [1, 2] rfl fun K hK => ?_
 simp only [go_sem, reduceIte, Nat.reduceEqDiff, Int.reduceLE, h2]
 intro bv
 refine hK _ ?_
 clear hK K
 refine AW.seq ?_
 refine AW.rseq (fid := f) (mt := [2]) [2, 6] rfl fun K hK => ?_
 simp only [go_sem, reduceIte, Nat.reduceEqDiff, Int.reduceLE]
 refine hK _ ?_
 clear hK K
 refine AW.block ?_
 have n95 : f * 1000 + 900 ≠ f * 1000 + 5 := by simp
 have n92 : f * 1000 + 900 ≠ f * 1000 + 2 := by simp
 have n911 : f * 1000 + 900 ≠ f * 1000 + 11 := by simp
 have n52 : f * 1000 + 5 ≠ f * 1000 + 2 := by simp
 have n511 : f * 1000 + 5 ≠ f * 1000 + 11 := by simp
 have n112 : f * 1000 + 11 ≠ f * 1000 + 2 := by simp
 refine AW.rangeFuncL (f * 1000 + 900) rfl fun fn lver L hL => ?_
 dsimp only [List.length_cons, List.length_nil, Nat.reduceAdd] at hL ⊢
 refine w127 (f := f) hn h5 (by rw [qag, if_neg (Ne.symm h9)]; exact hget_0) (fun iv vis H => hget H mid = some (mver, .map es) ∧ (∃ cur, hget H (f * 1000 + 5) = some (iv, .iter mid mver vis cur)) ∧
  hget H (f * 1000 + 900) = some (lver, L .ready none) ∧
  ((vis = [] ∧ hget H (f * 1000 + 2) = some (bv, .arr 1 22 [.v (.slice none 0 0)])) ∨
   ∃ av, vis ≠ [] ∧ hget H (f * 1000 + 2) = some (bv, .arr 1 22 [.ar (f * 1000 + 11) av 1 0 vis.length]) ∧ hget H (f * 1000 + 11) = some (av, .arr 1 9 (vis.reverse.map .str)))) (fun _ _ _ h => h.1) (fun _ _ _ h => h.2.1) (fun iv => ?_) ?_ ?_
 ·simp [qag, hget, hset, h2, h5, h9, h11, Ne.symm h2, Ne.symm h5, Ne.symm h9, Ne.symm h11]
 ·rintro iv vis k H1 ⟨hm, ⟨cur, hi⟩, hlp, hac⟩ hk hks hlt
  rw [hL] at hlp
  refine ⟨_, _, _, _, _, _, (by rw [qag, if_neg n95]; exact hlp), rfl, by simp, fun l => ?_⟩
  dsimp only [setPs]
  refine AW.region (fid := f) (mt := [2]) [2, 5] rfl fun K hK => ?_
  simp only [go_sem, reduceIte, Nat.reduceEqDiff, Int.reduceLE]
  refine hK _ ?_
  clear hK K
  refine ⟨rfl, by rw [qag, if_neg n95]; exact hlp, ?_⟩
  refine AW.block ?_
  have fin : ∀ (av : Nat) (H2 : Heap) (o : AObj), o = L .ready none → hget H2 mid = some (mver, .map es) → hget H2 (f * 1000 + 5) = some (iv, .iter mid mver (k :: vis) true) →
    hget H2 (f * 1000 + 2) = some (bv, .arr 1 22 [.ar (f * 1000 + 11) av 1 0 (vis.length + 1)]) → hget H2 (f * 1000 + 11) = some (av, .arr 1 9 ((k :: vis).reverse.map .str)) →
    HV.bool true = .bool true ∧ hget (hset H2 (f * 1000 + 900) lver o) mid = some (mver, .map es) ∧ (∃ cur, hget (hset H2 (f * 1000 + 900) lver o) (f * 1000 + 5) = some (iv, .iter mid mver (k :: vis) cur)) ∧
  hget (hset H2 (f * 1000 + 900) lver o) (f * 1000 + 900) = some (lver, L .ready none) ∧
  ((k :: vis = [] ∧ hget (hset H2 (f * 1000 + 900) lver o) (f * 1000 + 2) = some (bv, .arr 1 22 [.v (.slice none 0 0)])) ∨
   ∃ av, k :: vis ≠ [] ∧ hget (hset H2 (f * 1000 + 900) lver o) (f * 1000 + 2) = some (bv, .arr 1 22 [.ar (f * 1000 + 11) av 1 0 (k :: vis).length]) ∧ hget (hset H2 (f * 1000 + 900) lver o) (f * 1000 + 11) = some (av, .arr 1 9 ((k :: vis).reverse.map .str))) := by
   intro av H2 o ho g1 g2 g4 g5
   refine ⟨rfl, ?_, ⟨true, ?_⟩, ?_, .inr ⟨av, by simp, ?_, ?_⟩⟩
   ·rw [qag, if_neg (Ne.symm h9)]; exact g1
   ·rw [qag, if_neg (Ne.symm n95)]; exact g2
   ·rw [qag, if_pos rfl, ho]
   ·rw [qag, if_neg (Ne.symm n92)]; exact g4
   ·rw [qag, if_neg (Ne.symm n911)]; exact g5
  have hm2 : maxLen = 9223372036854775807 := rfl
  rcases hac with ⟨rfl, hb⟩ | ⟨av, _, hb, ha⟩
  ·refine AW.region (fid := f) (mt := [2]) [2, 5] rfl fun K hK => ?_
   simp only [go_sem, reduceIte, Nat.reduceEqDiff, Int.reduceLE, qag, Nat.add_left_cancel_iff, hb, List.getElem?_cons_zero, Nat.add_zero, List.length_nil, List.length_cons, Nat.zero_le, HV.one, zrep, List.replicate_succ, List.replicate_zero, List.flatten_cons, List.flatten_nil,
    List.set_cons_zero, Option.any_some, Nat.reduceAdd, Nat.reduceMul, Nat.reduceLeDiff, Nat.reduceBEq, Bool.or_false, BEq.rfl, List.take_succ_cons, List.take_zero, List.drop_zero]
   refine ⟨by simp [maxLen], fun av' => hK _ ?_⟩
   clear hK K
   refine ⟨?_, fin av' _ _ (hL _ _).symm ?_ ?_ ?_ ?_⟩
   ·rw [qag, if_neg n92, qag, if_neg n911, qag, if_pos rfl]
   ·rw [qag, if_neg (Ne.symm h2), qag, if_neg (Ne.symm h11), qag, if_neg (Ne.symm h9), qag, if_neg (Ne.symm h5)]; exact hm
   ·rw [qag, if_neg n52, qag, if_neg n511, qag, if_neg (Ne.symm n95), qag, if_pos rfl]
   ·rw [qag, if_pos rfl]; rfl
   ·rw [qag, if_neg n112, qag, if_pos rfl]; simp
  ·refine AW.region (fid := f) (mt := [2]) [2, 5] rfl fun K hK => ?_
   simp only [go_sem, reduceIte, Nat.reduceEqDiff, Int.reduceLE, qag, Nat.add_left_cancel_iff, hb, ha, List.getElem?_cons_zero, Nat.add_zero, List.length_nil, List.length_cons, Nat.zero_le, HV.one, zrep, List.replicate_succ, List.replicate_zero, List.flatten_cons, List.flatten_nil,
    List.set_cons_zero, Option.any_some, Nat.reduceAdd, Nat.reduceMul, Nat.reduceLeDiff, Nat.reduceBEq, Bool.or_false, BEq.rfl, List.take_succ_cons, List.take_zero, List.drop_zero]
   have hb1 : (vis.length + 1) * 16 ≤ 140737488355328 := by clear fin hL hlp; omega
   have hb2 : vis.length + 1 ≤ maxLen := by clear fin hL hlp; omega
   refine ⟨by simp, hb1, hb2, fun av' => hK _ ?_⟩
   clear hK K
   refine ⟨?_, fin av' _ _ (hL _ _).symm ?_ ?_ ?_ ?_⟩
   ·rw [qag, if_neg n92, qag, if_neg n911, qag, if_pos rfl]
   ·rw [qag, if_neg (Ne.symm h2), qag, if_neg (Ne.symm h11), qag, if_neg (Ne.symm h9), qag, if_neg (Ne.symm h5)]; exact hm
   ·rw [qag, if_neg n52, qag, if_neg n511, qag, if_neg (Ne.symm n95), qag, if_pos rfl]
   ·rw [qag, if_pos rfl]
   ·rw [qag, if_neg n112, qag, if_pos rfl, List.take_of_length_le (by simp)]; simp
 ·rintro iv vis H1 ⟨hm, _, hlp, ⟨hv0, hb⟩ | ⟨av, hvn, hb, ha⟩⟩ hp
  ·refine ⟨.ready, none, hlp, by simp, ?_⟩
   dsimp only [blockQ, thenQ]
   clear hL
   refine AW.rseq (fid := f) (mt := [2]) [4] rfl fun K hK => ?_
   simp only [go_sem, reduceIte, Nat.reduceEqDiff, Int.reduceLE, qag, Nat.add_left_cancel_iff, hb, List.getElem?_cons_zero]
   refine hK _ ?_
   clear hK K
   refine AW.ret ⟨.inr rfl, ?_⟩
   simp only [go_sem, reduceIte, Nat.reduceEqDiff]
   exact ⟨_, [], Conv.drop (fun _ _ h => by cases h), [], hv0 ▸ hp, .inl ⟨rfl, rfl, rfl⟩⟩
  ·refine ⟨.ready, none, hlp, by simp, ?_⟩
   dsimp only [blockQ, thenQ]
   clear hL
   refine AW.rseq (fid := f) (mt := [2]) [4] rfl fun K hK => ?_
   simp only [go_sem, reduceIte, Nat.reduceEqDiff, Int.reduceLE, qag, Nat.add_left_cancel_iff, hb, List.getElem?_cons_zero]
   refine hK _ ?_
   clear hK K
   refine AW.ret ⟨.inr rfl, ?_⟩
   simp only [go_sem, reduceIte, Nat.reduceEqDiff]
   refine ⟨_, [(f * 1000 + 11, av, .arr 1 9 (vis.reverse.map .str))], Conv.drop (leH_get ⟨?_, trivial⟩), vis.reverse, (List.reverse_perm vis).trans hp, .inr ⟨_, av, by simpa using hvn, by rw [List.length_reverse], rfl⟩⟩
   rw [qag, if_neg (Ne.symm n911)]; exact ha
def nilS : HV := .v (.slice none 0 0)
theorem w126 {f mid mver : Nat} {es : List (List UInt8 × HV)} (hn : (es.map (·.1)).Nodup) (hbig : es.length ≤ 1099511627776) (h2 : f * 1000 + 2 ≠ mid) (h5 : f * 1000 + 5 ≠ mid) (h11 : f * 1000 + 11 ≠ mid) (h9 : f * 1000 + 900 ≠ mid) :
  ACall Tryz.prog 184 [.fn (.func 186) [] [.fptr [.mp mid mver] 0]] [(mid, mver, .map es)] fun r H' => ∃ l, l.Perm (es.map (·.1)) ∧ ((l = [] ∧ r = .v (.slice none 0 0) ∧ H' = []) ∨
   ∃ id av, l ≠ [] ∧ r = .ar id av 1 0 l.length ∧ H' = [(id, av, .arr 1 9 (l.map .str))]) := by
 refine ACall.of_body Tryz.func184 rfl rfl (Nat.le_of_ble_eq_true rfl) ?_
 unfold Tryz.f184
 dsimp only [qaG, Nat.reduceAdd]
 refine AW.rseq (fid := f) (mt := []) [0] rfl fun K hK => ?_
 simp only [go_sem, reduceIte, Nat.reduceEqDiff, Int.reduceLE]
 refine hK _ ?_
 clear hK K
 refine AW.rseq (fid := f) (mt := []) [2] rfl fun K hK => ?_
 simp only [go_sem, reduceIte, Nat.reduceEqDiff, Int.reduceLE]
 refine (w160 hn hbig h2 h5 h11 h9).mono ?_
 rintro r H' hr
 refine hK _ ?_
 clear hK K
 refine AW.ret ⟨.inr rfl, ?_⟩
 simp only [go_sem, reduceIte, Nat.reduceEqDiff]
 exact ⟨_, _, Conv.refl _ _, hr⟩
theorem w81 {f mid mver : Nat} {es : List (List UInt8 × HV)} (hn : (es.map (·.1)).Nodup) (hbig : es.length ≤ 1099511627776) (h2 : f * 1000 + 2 ≠ mid) (h5 : f * 1000 + 5 ≠ mid) (h11 : f * 1000 + 11 ≠ mid) (h9 : f * 1000 + 900 ≠ mid) :
  ACall Tryz.prog 144 [.fn (.func 186) [] [.fptr [.mp mid mver] 0]] [(mid, mver, .map es)] fun r H' => (es = [] ∧ r = nilS ∧ H' = []) ∨
   ∃ id av, es ≠ [] ∧ r = .ar id av 1 0 es.length ∧ H' = [(id, av, .arr 1 9 ((sortS (es.map (·.1))).map .str))] := by
 refine ACall.of_body Tryz.func144 rfl rfl (Nat.le_of_ble_eq_true rfl) ?_
 unfold Tryz.f144
 dsimp only [qaG, Nat.reduceAdd]
 refine AW.rseq (fid := f) (mt := []) [0] rfl fun K hK => ?_
 simp only [go_sem, reduceIte, Nat.reduceEqDiff, Int.reduceLE]
 refine hK _ ?_
 clear hK K
 refine AW.rseq (fid := f) (mt := []) [3] rfl fun K hK => ?_
 simp only [go_sem, reduceIte, Nat.reduceEqDiff, Int.reduceLE]
 refine (w126 hn hbig h2 h5 h11 h9).mono ?_
 rintro r H' ⟨l, hp, ⟨rfl, rfl, rfl⟩ | ⟨id, av, hln, rfl, rfl⟩⟩
 ·refine hK _ ?_
  clear hK K
  have he : es = [] := by
   have := hp.length_eq
   simp only [List.length_nil, List.length_map] at this
   exact List.eq_nil_of_length_eq_zero this.symm
  refine AW.rseq (fid := f) (mt := []) [3] rfl fun K hK => ?_
  simp only [go_sem, reduceIte, Nat.reduceEqDiff, Int.reduceLE]
  refine w45n ?_
  refine hK _ ?_
  clear hK K
  refine AW.rseq (fid := f) (mt := []) [2] rfl fun K hK => ?_
  simp only [go_sem, reduceIte, Nat.reduceEqDiff, Int.reduceLE]
  refine hK _ ?_
  clear hK K
  refine AW.ret ⟨.inr rfl, ?_⟩
  simp only [go_sem, reduceIte, Nat.reduceEqDiff]
  exact ⟨_, _, Conv.refl _ _, .inl ⟨he, rfl, rfl⟩⟩
 ·refine hK _ ?_
  clear hK K
  have hlen := hp.length_eq
  rw [List.length_map] at hlen
  refine AW.rseq (fid := f) (mt := []) [3] rfl fun K hK => ?_
  simp only [go_sem, reduceIte, Nat.reduceEqDiff, Int.reduceLE]
  refine w45 hget_0 (by omega) ?_
  simp only [go_sem, reduceIte, Nat.reduceEqDiff, Int.reduceLE]
  refine hK _ ?_
  clear hK K
  refine AW.rseq (fid := f) (mt := []) [2] rfl fun K hK => ?_
  simp only [go_sem, reduceIte, Nat.reduceEqDiff, Int.reduceLE]
  refine hK _ ?_
  clear hK K
  refine AW.ret ⟨.inr rfl, ?_⟩
  simp only [go_sem, reduceIte, Nat.reduceEqDiff]
  exact ⟨_, _, Conv.refl _ _, .inr ⟨id, av, by rintro rfl; exact hln (List.eq_nil_of_length_eq_zero hlen), by rw [hlen], by rw [sortS_perm hp]⟩⟩
theorem w82 {id ver : Nat} {H : Heap} {K : HV → Heap → Prop} (hK : K (.fn (.func 186) [] [.fptr [.mp id ver] 0]) H) : ACall Tryz.prog 145 [.mp id ver] H K := by
 refine ACall.of_body Tryz.func145 rfl rfl (Nat.le_of_ble_eq_true rfl) ?_
 unfold Tryz.f145
 dsimp only [qaG, Nat.reduceAdd]
 refine AW.rseq (fid := 82) (mt := []) [1] rfl fun K1 hK1 => ?_
 simp only [go_sem, reduceIte, Nat.reduceEqDiff, Int.reduceLE, HV.one]
 refine hK1 _ ?_
 clear hK1 K1
 refine AW.rseq (fid := 82) (mt := []) [2] rfl fun K1 hK1 => ?_
 simp only [go_sem, reduceIte, Nat.reduceEqDiff, Int.reduceLE]
 refine hK1 _ ?_
 clear hK1 K1
 refine AW.ret ⟨.inr rfl, ?_⟩
 simp only [go_sem, reduceIte, Nat.reduceEqDiff]
 exact ⟨_, _, Conv.refl _ _, hK⟩
theorem list_steps {g : qaa} {set : List Int} (h : StepsOk g set) : ∃ A : List Int → Prop, A set ∧ (∀ a c, A a → c ∈ letters.take g.1.toNat → A (stpM g a c)) ∧
  ∀ a c, A a → c ∈ letters.take g.1.toNat → Pure Tryz.prog 111 [HV.agg [HV.int .i64 g.1, HV.int .i64 g.2.1, slE eFromLabelTo g.2.2], ints a, .int .u8 c.toNat] (· = ints (stpM g a c)) := by
 obtain ⟨A, h0, hs⟩ := h
 refine ⟨A, h0, fun a c ha hc => ?_, fun a c ha hc => ?_⟩
 ·obtain ⟨b, hb, hA⟩ := hs a c ha hc
  simp only [stpM, hb, Option.getD_some]
  exact hA
 ·obtain ⟨b, hb, hA⟩ := hs a c ha hc
  simp only [stpM, hb, Option.getD_some]
  exact w_language_step hb
theorem c_listT {g : qaa} {set : List Int} {n : Int} {x : List WS × Bool} (h : m_language_list g set n = some x) (hx : x.2 = true) {K : HV → Heap → Prop}
  (hK : ∀ id ver es, es.Perm (x.1.map ent) ∧ (x.1.map (·.1)).Nodup ∧ x.1.length ≤ 1099511627776 → K (.tup [.mp id ver, .bool true]) [(id, ver, .map es)]) : ACall Tryz.prog 143 [HV.agg [HV.int .i64 g.1, HV.int .i64 g.2.1, slE eFromLabelTo g.2.2], slE eInt set, .int .i64 n] [] K := by
 unfold m_language_list at h
 split at h
 ·rename_i hc
  obtain ⟨h1, h2, h3, h4⟩ := hc
  cases h
  split at hx
  ·rename_i hok
   rw [if_pos hok] at hK
   obtain ⟨A, hA0, hA, hstep⟩ := list_steps h4
   obtain ⟨gl, gs, ge⟩ := g
   try dsimp only at h1
   try dsimp only at h2
   try dsimp only at hA
   try dsimp only at hstep
   try dsimp only at hok
   try dsimp only
   try dsimp only at hK
   obtain ⟨L, rfl⟩ := Int.eq_ofNat_of_zero_le h1
   obtain ⟨m, rfl⟩ := Int.eq_ofNat_of_zero_le h3
   simp only [Int.toNat_natCast] at hok hK hA hstep
   refine (w79 (L := L) (n := m) (gS := HV.int .i64 gs) (gE := slE eFromLabelTo ge) (by omega) rfl rfl hA0 hA hstep).mono ?_
   rintro r H' (⟨hok', id, ver, es, rfl, rfl, hes⟩ | ⟨j, j1, j2, j3, rfl, rfl⟩)
   ·refine hK id ver es ⟨hes, lvl_keys (letters_nodup.sublist (List.take_sublist _ _)) m, ?_⟩
    cases m with
    | zero => simp only [lvl]; split <;> simp
    | succ m => have := hok' (m + 1) (by omega) (Nat.le_refl _); omega
   ·have := okLvl_iff.1 hok j j1 j2
    omega
  ·cases hx
 ·cases h
theorem c_listF {g : qaa} {set : List Int} {n : Int} {x : List WS × Bool} (h : m_language_list g set n = some x) (hx : ¬ x.2 = true) {K : HV → Heap → Prop}
  (hK : K (.tup [.v (.map none), .bool false]) []) : ACall Tryz.prog 143 [HV.agg [HV.int .i64 g.1, HV.int .i64 g.2.1, slE eFromLabelTo g.2.2], slE eInt set, .int .i64 n] [] K := by
 unfold m_language_list at h
 split at h
 ·rename_i hc
  obtain ⟨h1, h2, h3, h4⟩ := hc
  cases h
  split at hx
  ·exact absurd rfl hx
  ·rename_i hok
   obtain ⟨A, hA0, hA, hstep⟩ := list_steps h4
   obtain ⟨gl, gs, ge⟩ := g
   try dsimp only at h1
   try dsimp only at h2
   try dsimp only at hA
   try dsimp only at hstep
   try dsimp only at hok
   try dsimp only
   obtain ⟨L, rfl⟩ := Int.eq_ofNat_of_zero_le h1
   obtain ⟨m, rfl⟩ := Int.eq_ofNat_of_zero_le h3
   simp only [Int.toNat_natCast] at hok hA hstep
   refine (w79 (L := L) (n := m) (gS := HV.int .i64 gs) (gE := slE eFromLabelTo ge) (by omega) rfl rfl hA0 hA hstep).mono ?_
   rintro r H' (⟨hok', id, ver, es, rfl, rfl, hes⟩ | ⟨j, j1, j2, j3, rfl, rfl⟩)
   ·exact absurd (okLvl_iff.2 hok') hok
   ·exact hK
 ·cases h
theorem c_sortedKeys {id ver : Nat} {es : List (List UInt8 × HV)} {l : List WS} (hes : es.Perm (l.map ent) ∧ (l.map (·.1)).Nodup ∧ l.length ≤ 1099511627776) {K : HV → Heap → Prop} (hK : K (slE eStr (sortS (l.map (·.1)))) []) :
  ACall Tryz.prog 144 [.fn (.func 186) [] [.fptr [.mp id ver] 0]] [(id, ver, .map es)] K := by
 obtain ⟨hp, hn, hb⟩ := hes
 have hlen : es.length = l.length := by rw [hp.length_eq, List.length_map]
 have hsk : sortS (es.map (·.1)) = sortS (l.map (·.1)) := by
  refine sortS_perm ?_
  have := hp.map (·.1)
  rw [List.map_map] at this
  exact this
 refine (w81 (f := id + 1) (perm_keys hp hn) (by omega) (by omega) (by omega) (by omega) (by omega)).conv' ?_
 rintro r H' (⟨he, rfl, rfl⟩ | ⟨id', av, hen, rfl, rfl⟩)
 ·have hl : l = [] := List.eq_nil_of_length_eq_zero (by rw [← hlen, he]; rfl)
  subst hl
  have e0 : sortS (([] : List WS).map (·.1)) = [] := List.eq_nil_of_length_eq_zero (by rw [sortS_len]; rfl)
  rw [e0] at hK
  exact ⟨slE eStr [], [], Conv.le (.nil 1), hK⟩
 ·refine ⟨_, [], Conv.all 2, ?_⟩
  have e : es.length = (sortS (es.map (·.1))).length := by rw [sortS_len, List.length_map]
  rw [e]
  have hf := frz_slE eStr (D := [(id', av, .arr 1 9 ((sortS (es.map (·.1))).map .str))]) (l := sortS (es.map (·.1))) hget_0 (fun _ _ => rfl)
  have hk2 := hK
  rw [← hsk, ← hf] at hk2
  exact hk2
end Go.AW
namespace Go.Proofs
open Go
def Tryz.strRep_ren : Go.Shelf.Ren := ⟨fun | 105 => 146 | 212 => 187 | 99 => 26 | 165 => 188 | 166 => 54 | 170 => 189 | 169 => 59 | 263 => 215 | 264 => 216 | 206 => 74 | 240 => 107 | 241 => 217 | 276 => 157 | 277 => 243 | n => n, fun | 9 => 9 | 3 => 3 | 4 => 4 | 20 => 20 | 0 => 0 | 46 => 97 | 109 => 184 | 5 => 5 | 72 => 80 | 76 => 83 | 51 => 105 | 146 => 212 | 53 => 103 | 148 => 214 | 70 => 78 | 37 => 28 | 75 => 82 | 127 => 134 | 164 => 166 | 80 => 90 | n => n, fun | n => n⟩
theorem Tryz.strRep : Go.Proofs.Lays.n105 Tryz.prog Tryz.strRep_ren where
 mixed := by kernel_rfl
 f99 := Tryz.func26.trans (congrArg some (by kernel_rfl))
 f105 := Tryz.func146.trans (congrArg some (by kernel_rfl))
 f165 := Tryz.func188.trans (congrArg some (by kernel_rfl))
 f166 := Tryz.func54.trans (congrArg some (by kernel_rfl))
 f169 := Tryz.func59.trans (congrArg some (by kernel_rfl))
 f170 := Tryz.func189.trans (congrArg some (by kernel_rfl))
 f206 := Tryz.func74.trans (congrArg some (by kernel_rfl))
 f212 := Tryz.func187.trans (congrArg some (by kernel_rfl))
 f240 := Tryz.func107.trans (congrArg some (by kernel_rfl))
 f241 := Tryz.func217.trans (congrArg some (by kernel_rfl))
 f263 := Tryz.func215.trans (congrArg some (by kernel_rfl))
 f264 := Tryz.func216.trans (congrArg some (by kernel_rfl))
 f276 := Tryz.func157.trans (congrArg some (by kernel_rfl))
 f277 := Tryz.func243.trans (congrArg some (by kernel_rfl))
 t0 := Tryz.underlying0
 a0 := Tryz.isAgg0
 z0 := Tryz.sizeOf0
 v0 := Tryz.zeroValue0
 t3 := Tryz.underlying3
 a3 := Tryz.isAgg3
 z3 := Tryz.sizeOf3
 v3 := Tryz.zeroValue3
 t4 := Tryz.underlying4
 a4 := Tryz.isAgg4
 z4 := Tryz.sizeOf4
 v4 := Tryz.zeroValue4
 t5 := Tryz.underlying5
 a5 := Tryz.isAgg5
 z5 := Tryz.sizeOf5
 v5 := Tryz.zeroValue5
 t9 := Tryz.underlying9
 a9 := Tryz.isAgg9
 z9 := Tryz.sizeOf9
 v9 := Tryz.zeroValue9
 t20 := Tryz.underlying20
 a20 := Tryz.isAgg20
 z20 := Tryz.sizeOf20
 v20 := Tryz.zeroValue20
 t37 := Tryz.underlying28
 a37 := Tryz.isAgg28
 z37 := Tryz.sizeOf28
 v37 := Tryz.zeroValue28
 t46 := Tryz.underlying97
 a46 := Tryz.isAgg97
 z46 := Tryz.sizeOf97
 v46 := Tryz.zeroValue97
 t51 := Tryz.underlying105
 a51 := Tryz.isAgg105
 z51 := Tryz.sizeOf105
 v51 := Tryz.zeroValue105
 t53 := Tryz.underlying103
 a53 := Tryz.isAgg103
 z53 := Tryz.sizeOf103
 v53 := Tryz.zeroValue103
 t70 := Tryz.underlying78
 a70 := Tryz.isAgg78
 z70 := Tryz.sizeOf78
 v70 := Tryz.zeroValue78
 t72 := Tryz.underlying80
 a72 := Tryz.isAgg80
 z72 := Tryz.sizeOf80
 v72 := Tryz.zeroValue80
 t75 := Tryz.underlying82
 a75 := Tryz.isAgg82
 z75 := Tryz.sizeOf82
 v75 := Tryz.zeroValue82
 t76 := Tryz.underlying83
 a76 := Tryz.isAgg83
 z76 := Tryz.sizeOf83
 v76 := Tryz.zeroValue83
 t109 := Tryz.underlying184
 a109 := Tryz.isAgg184
 z109 := Tryz.sizeOf184
 v109 := Tryz.zeroValue184
 t127 := Tryz.underlying134
 a127 := Tryz.isAgg134
 z127 := Tryz.sizeOf134
 v127 := Tryz.zeroValue134
 t146 := Tryz.underlying212
 a146 := Tryz.isAgg212
 z146 := Tryz.sizeOf212
 v146 := Tryz.zeroValue212
 t148 := Tryz.underlying214
 a148 := Tryz.isAgg214
 z148 := Tryz.sizeOf214
 v148 := Tryz.zeroValue214
 t164 := Tryz.underlying166
 a164 := Tryz.isAgg166
 z164 := Tryz.sizeOf166
 v164 := Tryz.zeroValue166
end Go.Proofs
namespace Go.Proofs
open Go
theorem Tryz.bldX : Go.Proofs.Builder.Extra Tryz.prog Tryz.strRep_ren where
 sizeBuilder := by kernel_rfl
 liesBuilder := by kernel_rfl
 t5 := Tryz.underlying5
 a5 := Tryz.isAgg5
 z5 := Tryz.sizeOf5
 v5 := Tryz.zeroValue5
 infoByte := by kernel_rfl
 cellsByte := by kernel_rfl
 sizeByte := by kernel_rfl
 neB5 := by decide
end Go.Proofs
namespace Go.AW
open Go Go.Proofs Go.Lib
theorem rep_flat : ∀ (s : List UInt8) (n : Nat), Lib.repeatL s n = (List.replicate n s).flatten
 | s, 0 => rfl
 | s, n + 1 => by rw [List.replicate_succ, List.flatten_cons, ← rep_flat s n]; rfl
theorem flat_repl (s : List UInt8) : ∀ m : Nat, (List.replicate m s).flatten.length = m * s.length
 | 0 => by simp
 | m + 1 => by rw [List.replicate_succ, List.flatten_cons, List.length_append, flat_repl s m, Nat.succ_mul]; omega
theorem w_strings_Repeat {s r : List UInt8} {n : Int} (h : m_strings_Repeat s n = some r) : Pure Tryz.prog 146 [HV.str s, HV.int .i64 n] (· = HV.str r) := by
 unfold m_strings_Repeat at h
 split at h
 ·rename_i hc
  obtain ⟨h0, h1, h2⟩ := hc
  cases h
  obtain ⟨m, rfl⟩ := Int.eq_ofNat_of_zero_le h0
  simp only [Int.toNat_natCast] at h2 ⊢
  refine ⟨enters' Tryz.func146 rfl rfl, fun μ w vs hs hr _ => ?_⟩
  obtain ⟨x, xs, rfl, ⟨rfl, hl⟩, y, ys, rfl, ⟨rfl, _⟩, hn⟩ := hr
  cases hn
  refine (Any.strings_Repeat Tryz.strRep Tryz.bldX ⟨s.toArray⟩ m w (by omega) (by simpa [ByteArray.size] using h2)).mono ?_
  rintro e w' ⟨rfl, hbel⟩
  have hg : Grow w w' := ⟨⟨hbel.os, hbel.tape, hbel.output⟩, hbel.size, hbel.block⟩
  refine ⟨_, .str (List.replicate m s).flatten, [], μ, rfl, ⟨rfl, trivial, rfl⟩, hs.grow hg, ⟨?_, ?_⟩, Evo.grow hs hg⟩
  ·rw [← rep_flat]
  ·rw [flat_repl, Nat.mul_comm]
   simp only [maxLen]
   omega
 ·cases h
end Go.AW
namespace Go.Proofs
open Go
theorem Tryz.bld_lies (n : Nat) (hn : 2 ≤ n) : liesAt Tryz.prog Tryz.prog.depth 80 (n / Tryz.prog.cellsOf 80) 0 80 1 = true := by
 have hc : Tryz.prog.cellsOf 80 = 2 := by kernel_rfl
 have hd : Tryz.prog.depth = (2 * (Tryz.prog.types.size + Made.depth) + 1) + 1 := rfl
 rw [hd]
 simp only [liesAt, Bool.or_eq_true]
 left
 rw [hd]
 have : 1 ≤ n / 2 := by omega
 simp [rowAt, hc, sameLayout, this]
set_option maxHeartbeats 1000000 in
set_option maxRecDepth 100000 in
theorem Tryz.copyCheck_fresh (b n : Nat) (w : World) (h0 : w.cell? ⟨b, 0, none⟩ = some (.pointer none)) (hsh : w.shape? b = some (80, n)) (hn : 2 ≤ n) (hfz : w.frozen? ⟨b, 0, none⟩ = false) :
  Calls Tryz.prog 107 #[.pointer (some ⟨b, 0, none⟩)] w fun e w' => e = .returned (.tuple #[]) ∧ w' = w.setCell ⟨b, 0, none⟩ (.pointer (some ⟨b, 0, none⟩)) := by
 obtain ⟨j, hj, hjs⟩ := Option.map_eq_some_iff.1 (show (Tryz.prog.info? 80).map (·.size) = some 2 by kernel_rfl)
 have hlies := Tryz.bld_lies n hn
 go_enter Tryz.func107, Tryz.ntmps107
 go_wp2
 rw [Lib.run_to_unsafe w ⟨b, 0, none⟩ Tryz.underlying78 Tryz.underlying166 hj (by rw [hjs]; decide) hsh (by show 0 < n; omega)]
 simp only [Result.andThen]
 rw [Oper.upon_value]
 go_wp2
 rw [run_callFunc_extern Tryz.func157 (by kernel_rfl) (by kernel_rfl) (by kernel_rfl) (e := Extern.AbiNoEscape.same) (by kernel_rfl), Lib.run_noEscape]
 simp only [Result.andThen]
 rw [Oper.upon_value]
 go_wp2
 rw [Lib.run_from_unsafe w ⟨b, 0, none⟩ Tryz.underlying166 Tryz.underlying78 hj hsh hlies]
 simp only [Result.andThen]
 rw [Oper.upon_value]
 go_wp2
 go_end0
 exact ⟨rfl, rfl⟩
set_option maxHeartbeats 1000000 in
set_option maxRecDepth 100000 in
theorem Tryz.copyCheck_used (b : Nat) (w : World) (h0 : w.cell? ⟨b, 0, none⟩ = some (.pointer (some ⟨b, 0, none⟩))) :
  Calls Tryz.prog 107 #[.pointer (some ⟨b, 0, none⟩)] w fun e w' => e = .returned (.tuple #[]) ∧ w' = w := by
 obtain ⟨j, hj, _⟩ := Option.map_eq_some_iff.1 (show (Tryz.prog.info? 80).map (·.size) = some 2 by kernel_rfl)
 go_enter Tryz.func107, Tryz.ntmps107
 go_wp2
 rw [Lib.run_neq_ptr_same w _ Tryz.underlying78 hj]
 go_wp2
 go_end0
 exact ⟨rfl, rfl⟩
end Go.Proofs
namespace Go.AW
open Go Go.Proofs Go.Lib
def bldP (u : Bool) (id ver : Nat) : HV := if u then .ptr id ver 0 else .v (.pointer none)
theorem c_copyCheck {H : Heap} {K : HV → Heap → Prop} {id ver : Nat} {u : Bool} {s : HV} (hg : hget H id = some (ver, .arr 2 80 [bldP u id ver, s])) (hK : K (.tup []) ((id, ver, .arr 2 80 [.ptr id ver 0, s]) :: H)) :
  ACall Tryz.prog 107 [.ptr id ver 0] H K := by
 refine ⟨enters' Tryz.func107 rfl rfl, fun μ w vs hs hr _ => ?_⟩
 obtain ⟨x, xs, rfl, hr, hn⟩ := hr
 cases hn
 obtain ⟨lo, hl, hor⟩ := hs.has _ _ _ hg
 have hle : ∀ ob j (y : Nat × AObj), hget ((id, ver, ob) :: H) j = some y ↔ hget (hset H id ver ob) j = some y := fun ob j y => by simp only [hget, qag]
 rcases hr with ⟨b, hl', rfl⟩ | ⟨hd, _⟩
 ·rw [hl] at hl'
  cases hl'
  obtain ⟨h1, cur, vs', rest, hrow, hcl, hrl⟩ := hor
  obtain ⟨v0, vs1, rfl, r0, v1, vs2, rfl, r1, hn⟩ := hrl
  cases hn
  have hrow2 := hrow
  obtain ⟨lo', hi', hbk, hfr⟩ := hrow2
  have hsz : 2 ≤ cur.size := by rw [← Array.length_toList, hcl]; simp
  have hc0 : cur[0]? = some v0 := by rw [← Array.getElem?_toList, hcl]; rfl
  have hcell : w.cell? ⟨b, 0, none⟩ = some v0 := by rw [Lib.cell_of_heap hbk]; exact hc0
  cases u with
  | false =>
   obtain rfl : v0 = .pointer none := r0
   refine (Tryz.copyCheck_fresh b cur.size w hcell (by simp [World.shape?, hbk]) hsz (hrow.free (by omega))).mono ?_
   rintro e w' ⟨rfl, rfl⟩
   have hbk' : (w.setCell ⟨b, 0, none⟩ (.pointer (some ⟨b, 0, none⟩))).heap[b]? = some (.cells (cur.setIfInBounds 0 (.pointer (some ⟨b, 0, none⟩))) 80 (lo', hi')) := by
    show (w.heap.modify b _)[b]? = _
    rw [Array.getElem?_modify, if_pos rfl, hbk]
    rfl
   obtain ⟨hsr, hE⟩ := hs.updArr (w' := w.setCell ⟨b, 0, none⟩ (.pointer (some ⟨b, 0, none⟩))) (cs' := [.ptr id ver 0, s]) hg hl ⟨rfl, rfl, rfl⟩ (by show (w.heap.modify b _).size = _; simp) (fun b' hne => by
    show (w.heap.modify b _)[b']? = _
    rw [Array.getElem?_modify, if_neg (fun e => hne e.symm)]) hrow ⟨lo', hi', hbk', by simpa using hfr⟩ (by simp) fun E => by
     refine ⟨fun c hc => ?_, _, [.pointer (some ⟨b, 0, none⟩), v1], rest, ⟨lo', hi', hbk', by simpa using hfr⟩, ?_, ?_⟩
     ·rcases List.mem_cons.1 hc with rfl | hc
      ·rfl
      ·exact h1 c (List.mem_cons_of_mem _ hc)
     ·rw [Array.toList_setIfInBounds, hcl]; rfl
     ·exact ⟨_, _, rfl, .inl ⟨b, hl, rfl⟩, _, _, rfl, Rep.evo E hs.ok _ _ r1, rfl⟩
   exact ⟨_, .tup [], _, μ, rfl, hK, hsr.le (hle _), ⟨[], rfl, rfl⟩, hE⟩
  | true =>
   rcases r0 with ⟨b', hl2, rfl⟩ | ⟨hd, _⟩
   ·rw [hl] at hl2
    cases hl2
    refine (Tryz.copyCheck_used b w hcell).mono ?_
    rintro e w' ⟨rfl, rfl⟩
    exact ⟨_, .tup [], _, μ, rfl, hK, (hs.same hg).le (hle _), ⟨[], rfl, rfl⟩, Evo.refl _ _⟩
   ·exact absurd hl (hd.2 _)
 ·exact absurd hl (hd.2 _)
end Go.AW
namespace Go.AW
open Go
abbrev eByte : EncL UInt8 := encM fun b => HV.int .u8 (b.toNat : Int)
section
variable {P : Program} {ro : Option Nat} {N : Nat} {s : AS} {o : Oper} {sl : List (Nat × HV)} {H : Heap} {all : Array Oper} {rest : List Oper} {K : AS → Prop}
theorem o_appS {d : Nat} {t xt e : TypeId} {a b a2 b2 : Nat} {z z2 : Value} {aa : Array Operand} {ts : Array TypeId} {x y : Operand} {Te : TyI} {l m : List UInt8} {id ver : Nat} (h0 : (o.dst, o.op) = (some d, .call ⟨.builtin .append, aa, ts⟩)) (ha : (aa.toList, ts.toList) = ([x, y], [t, xt])) (hT : ty P t = some ⟨.slice e, a, b, z⟩) (hxt : ty P xt = some ⟨.string, a2, b2, z2⟩) (hTe : ty P e = some Te)
  (hx : s.ev x = some (.ar id ver eByte.k 0 l.length)) (hg : hget s.heap id = some (ver, .arr eByte.k e (eByte.E l))) (hy : s.ev y = some (.str m)) (hk : Te.size = 1) (hz : (qa8 Te.zero).any (fun zs => zs.length == Te.size) = true) (h : fits Te.bytes (l.length + m.length))
  (k : ∀ ver', bops P ro N all rest K ⟨(d, .ar id ver' eByte.k 0 (l ++ m).length) :: s.slots, (id, ver', .arr eByte.k e (eByte.E (l ++ m))) :: s.heap⟩) : aop P 0 [] o (fun s' => bops P ro N all rest K s') s := by
 obtain ⟨h3, h4⟩ := Prod.mk.inj h0
 obtain ⟨h5, h6⟩ := Prod.mk.inj ha
 have ek : eByte.k = 1 := rfl
 refine op_append (n := l.length) (m := m.length) (cs := eByte.E l) (ds := eByte.E m) h4 h5 h6 hT hx hy hTe hz ?_ ?_ h ?_
 ·simp only [abase, hg]
  refine ⟨trivial, hk.symm, trivial, trivial, ?_, trivial, ?_⟩
  ·rw [hk, eByte.len]; exact Nat.le_refl _
  ·rw [hk]
   show (eByte.E l).take (l.length * eByte.k) = _
   rw [eByte.take, List.take_length]
 ·simp only [asrc, hxt]
  exact ⟨hk, trivial, rfl⟩
 ·intro ver'
  have e1 : qbv (.ar id ver eByte.k 0 l.length) (cid 0 o.dst) = id := rfl
  have e2 : eByte.E l ++ eByte.E m = eByte.E (l ++ m) := (eByte.append l m).symm
  rw [e1, h3, hk, e2]
  have e3 : (l ++ m).length = l.length + m.length := List.length_append
  have := k ver'
  rw [e3] at this
  exact qbs (putH_le id ver' _ d _) this
end
end Go.AW
namespace Go.AW
open Go Go.Proofs
def bldO (id ver aid aver : Nat) (u : Bool) (l : List UInt8) : AObj := .arr 2 80 [bldP u id ver, .ar aid aver 1 0 l.length]
def bytO (l : List UInt8) : AObj := .arr 1 5 (eByte.E l)
theorem hget_1 {id v j w : Nat} {o p : AObj} {H : Heap} (h : j ≠ id) (hj : hget H j = some (w, p)) : hget ((id, v, o) :: H) j = some (w, p) := by
 simp only [hget]
 rw [if_neg (by omega)]
 exact hj
end Go.AW
namespace Go.Proofs
open Go
def But (g : Nat) (w w' : World) : Prop := Go.AW.Same w w' ∧ w.heap.size ≤ w'.heap.size ∧ ∀ k, k < w.heap.size → k ≠ g → w'.heap[k]? = w.heap[k]?
set_option maxHeartbeats 2000000 in
set_option maxRecDepth 100000 in
theorem Tryz.bldS_nil (b g : Nat) (w : World) (c0 : w.cell? ⟨b, 1, none⟩ = some (.slice none 0 0)) :
  Calls Tryz.prog 59 #[.pointer (some ⟨b, 0, none⟩)] w fun e w' => e = .returned (.string ⟨#[]⟩) ∧ But g w w' := by
 have hUS : ∀ (W : World) (q : Option Addr), (Builtin.unsafeString_ #[134, 3] 9 #[.pointer q, .int .i64 0]).run Tryz.prog W = .ok (.string .empty) W := fun W q => Lib.run_unsafeString_none W _ _ _ q
 have c1 : w.drew.cell? ⟨b, 1, none⟩ = some (.slice none 0 0) := c0
 have hSD : (Builtin.unsafeSliceData_ #[28] 134 #[.slice none 0 0]).run Tryz.prog w.drew = .ok (.pointer none) w.drew := rfl
 have mixed : Tryz.prog.follows .mixedOrders = true := by kernel_rfl
 go_enter Tryz.func59, Tryz.ntmps59
 go_wp2
 go_region_o
 all_goals (go_wp2; go_ret; exact ⟨rfl, ⟨rfl, rfl, rfl⟩, Nat.le_refl _, fun _ _ _ => rfl⟩)
set_option maxHeartbeats 2000000 in
set_option maxRecDepth 100000 in
theorem Tryz.bldS_room (b g cap : Nat) (w : World) (hc0 : cap ≠ 0) (c0 : w.cell? ⟨b, 1, none⟩ = some (.slice (some ⟨g, 0, none⟩) 0 cap)) :
  Calls Tryz.prog 59 #[.pointer (some ⟨b, 0, none⟩)] w fun e w' => e = .returned (.string ⟨#[]⟩) ∧ But g w w' := by
 have hUS : ∀ (W : World) (q : Option Addr), (Builtin.unsafeString_ #[134, 3] 9 #[.pointer q, .int .i64 0]).run Tryz.prog W = .ok (.string .empty) W := fun W q => Lib.run_unsafeString_none W _ _ _ q
 have c1 : w.drew.cell? ⟨b, 1, none⟩ = some (.slice (some ⟨g, 0, none⟩) 0 cap) := c0
 have hSD : (Builtin.unsafeSliceData_ #[28] 134 #[.slice (some ⟨g, 0, none⟩) 0 cap]).run Tryz.prog w.drew = .ok (.pointer (some ⟨g, 0, none⟩)) w.drew := Lib.run_unsafeSliceData_row _ _ _ _ _ _ hc0
 clear hc0
 have mixed : Tryz.prog.follows .mixedOrders = true := by kernel_rfl
 go_enter Tryz.func59, Tryz.ntmps59
 go_wp2
 go_region_o
 all_goals (go_wp2; go_ret; exact ⟨rfl, ⟨rfl, rfl, rfl⟩, Nat.le_refl _, fun _ _ _ => rfl⟩)
set_option maxHeartbeats 2000000 in
set_option maxRecDepth 100000 in
theorem Tryz.bldS_noroom (b g : Nat) (cur : Array Value) (fr : Nat × Nat) (w : World) (hlt : b < w.heap.size) (c0 : w.cell? ⟨b, 1, none⟩ = some (.slice (some ⟨g, 0, none⟩) 0 0)) (hg : w.heap[g]? = some (.cells cur 5 fr)) :
  Calls Tryz.prog 59 #[.pointer (some ⟨b, 0, none⟩)] w fun e w' => e = .returned (.string ⟨#[]⟩) ∧ But g w w' := by
 have hUS : ∀ (W : World) (q : Option Addr), (Builtin.unsafeString_ #[134, 3] 9 #[.pointer q, .int .i64 0]).run Tryz.prog W = .ok (.string .empty) W := fun W q => Lib.run_unsafeString_none W _ _ _ q
 have c1 : w.drew.cell? ⟨b, 1, none⟩ = some (.slice (some ⟨g, 0, none⟩) 0 0) := c0
 have hSD : (Builtin.unsafeSliceData_ #[28] 134 #[.slice (some ⟨g, 0, none⟩) 0 0]).run Tryz.prog w.drew = .ok (.pointer (some ⟨w.drew.heap.size, 0, none⟩)) (w.drew.alloc (.view ⟨g, 0, none⟩ 5)) :=
  Lib.run_unsafeSliceData_zero w.drew _ _ 5 Tryz.underlying134 ⟨g, 0, none⟩ 0 (5, cur.size) (by have hg' : w.drew.heap[g]? = some (.cells cur 5 fr) := hg; simp [World.shape?, hg'])
 have c2 : (w.drew.alloc (.view ⟨g, 0, none⟩ 5)).cell? ⟨b, 1, none⟩ = some (.slice (some ⟨g, 0, none⟩) 0 0) := by
  have e : (w.drew.alloc (.view ⟨g, 0, none⟩ 5)).heap[b]? = w.heap[b]? := Lib.alloc_old w.drew _ b hlt
  have h1 : (w.drew.alloc (.view ⟨g, 0, none⟩ 5)).cell? ⟨b, 1, none⟩ = w.cell? ⟨b, 1, none⟩ := by simp only [World.cell?, e]
  rw [h1]; exact c0
 have c3 : (w.alloc (.view ⟨g, 0, none⟩ 5)).drew.cell? ⟨b, 1, none⟩ = some (.slice (some ⟨g, 0, none⟩) 0 0) := c2
 have mixed : Tryz.prog.follows .mixedOrders = true := by kernel_rfl
 go_enter Tryz.func59, Tryz.ntmps59
 go_wp2
 go_region_o
 all_goals (go_wp2; go_ret; exact ⟨rfl, ⟨rfl, rfl, rfl⟩, by show w.heap.size ≤ (w.heap.push _).size; rw [Array.size_push]; omega, fun k hk _ => Lib.alloc_old w.drew _ k hk⟩)
set_option maxHeartbeats 2000000 in
set_option maxRecDepth 100000 in
theorem Tryz.bldS_some (b g cap : Nat) (cur : Array Value) (fr : Nat × Nat) (l : List UInt8) (w : World) (h0 : l ≠ []) (c0 : w.cell? ⟨b, 1, none⟩ = some (.slice (some ⟨g, 0, none⟩) l.length cap)) (hg : w.heap[g]? = some (.cells cur 5 fr)) (hcap : l.length ≤ cap) (hsz : cur.size = cap) (hcm : cap ≤ maxLen)
  (hcell : ∀ (j : Nat) (x : UInt8), l[j]? = some x → cur[j]? = some (.int .u8 x.toNat)) :
  Calls Tryz.prog 59 #[.pointer (some ⟨b, 0, none⟩)] w fun e w' => e = .returned (.string ⟨l.toArray⟩) ∧ But g w w' := by
 have hl0 : l.length ≠ 0 := by simpa using h0
 have c1 : w.drew.cell? ⟨b, 1, none⟩ = some (.slice (some ⟨g, 0, none⟩) l.length cap) := c0
 have hSD : (Builtin.unsafeSliceData_ #[28] 134 #[.slice (some ⟨g, 0, none⟩) l.length cap]).run Tryz.prog w.drew = .ok (.pointer (some ⟨g, 0, none⟩)) w.drew := Lib.run_unsafeSliceData_row _ _ _ _ _ _ (by omega)
 have hUS : (Builtin.unsafeString_ #[134, 3] 9 #[.pointer (some ⟨g, 0, none⟩), .int .i64 l.length]).run Tryz.prog w.drew = .ok (.string ⟨l.toArray⟩) (w.drew.freeze ⟨g, 0, none⟩ l.length) := by
  refine Lib.run_unsafeString_row w.drew 134 3 9 5 Tryz.underlying134 (by kernel_rfl) g cur.size (by have hg' : w.drew.heap[g]? = some (.cells cur 5 fr) := hg; simp [World.shape?, hg']) l h0 (by omega) (by unfold maxLen at hcm; omega) ?_
  intro j x hx
  have hg' : w.drew.heap[g]? = some (.cells cur 5 fr) := hg
  rw [Addr.add_lit, Nat.zero_add, Lib.cell_of_heap hg']
  exact hcell j x hx
 have hfz : But g w (w.drew.freeze ⟨g, 0, none⟩ l.length) := by
  unfold World.freeze
  rw [if_neg hl0]
  refine ⟨⟨rfl, rfl, rfl⟩, by show w.heap.size ≤ (w.heap.modify g _).size; simp, fun k hk hne => ?_⟩
  show (w.heap.modify g _)[k]? = _
  rw [Array.getElem?_modify, if_neg (fun e => hne e.symm)]
 clear hcell hsz hcap hcm h0 hl0 hg
 have mixed : Tryz.prog.follows .mixedOrders = true := by kernel_rfl
 go_enter Tryz.func59, Tryz.ntmps59
 go_wp2
 go_region_o
 all_goals (go_wp2; go_ret; exact ⟨rfl, hfz⟩)
end Go.Proofs
namespace Go.AW
open Go Go.Proofs Go.Lib
theorem repL_byt {w : World} {μ : Mu} : ∀ {l : List UInt8} {vs : List Value}, RepL w μ (l.map fun b => HV.int .u8 (b.toNat : Int)) vs → vs = l.map fun b => Value.int .u8 (b.toNat : Int)
 | [], vs, h => h
 | x :: l, vs, h => by
  obtain ⟨v, vs', rfl, hx, hr⟩ := h
  obtain ⟨rfl, _⟩ := hx
  rw [repL_byt hr]
  rfl
theorem c_String {H : Heap} {K : HV → Heap → Prop} {id ver aid aver : Nat} {u : Bool} {l : List UInt8} (hg : hget H id = some (ver, bldO id ver aid aver u l)) (ha : hget H aid = some (aver, bytO l)) (hK : ∀ av, K (.str l) ((aid, av, .arr 1 5 []) :: H)) :
  ACall Tryz.prog 59 [.ptr id ver 0] H K := by
 refine ⟨enters' Tryz.func59 rfl rfl, fun μ w vs hs hr _ => ?_⟩
 obtain ⟨x, xs, rfl, hr, hn⟩ := hr
 cases hn
 obtain ⟨lo, hl, hor⟩ := hs.has _ _ _ hg
 obtain ⟨la, hla, hora⟩ := hs.has _ _ _ ha
 have hle : ∀ v ob j (y : Nat × AObj), hget ((aid, v, ob) :: H) j = some y ↔ hget (hset H aid v ob) j = some y := fun v ob j y => by simp only [hget, qag]
 have fin : ∀ (g : Nat) (w' : World), (∀ b, μ.loc aid = some (aver, some b) → b = g) → (la = none → w.heap.size ≤ g) → l.length ≤ maxLen → But g w w' → ∃ v r H' μ', Ending.returned (.string ⟨l.toArray⟩) = .returned v ∧ K r H' ∧ SR w' μ' H' ∧ Rep w' μ' r v ∧ Evo w μ w' μ' := by
  intro g w' hb hgn hlen ⟨h1, h2, h3⟩
  have hold : ∀ b, b < w.heap.size → (∀ ver, μ.loc aid ≠ some (ver, some b)) → w'.heap[b]? = w.heap[b]? := fun b hb1 hb2 => by
   by_cases e : b = g
   ·cases la with
    | none => exact absurd (hgn rfl) (by omega)
    | some b0 =>
     have := hb b0 hla
     subst this
     subst e
     exact absurd hla (hb2 _)
   ·exact h3 b hb1 e
  have hsr := hs.repl aid none (.arr 1 5 []) h1 h2 hold (fun b hb => by cases hb) rfl
  have hE := Evo.repl hs aid none h1 h2 hold (fun b hb => by cases hb)
  exact ⟨_, .str l, _, μ.set aid none, rfl, hK μ.nx, hsr.le (hle _ _), ⟨rfl, hlen⟩, hE⟩
 rcases hr with ⟨b, hl', rfl⟩ | ⟨hd, _⟩
 ·rw [hl] at hl'
  cases hl'
  obtain ⟨h1, cur, vs', rest, hrow, hcl, hrl⟩ := hor
  obtain ⟨v0, vs1, rfl, r0, v1, vs2, rfl, r1, hn⟩ := hrl
  cases hn
  have hrow2 := hrow
  obtain ⟨lo', hi', hbk, hfr⟩ := hrow2
  have hc1 : cur[1]? = some v1 := by rw [← Array.getElem?_toList, hcl]; rfl
  have hcell : w.cell? ⟨b, 1, none⟩ = some v1 := by rw [Lib.cell_of_heap hbk]; exact hc1
  have hlt : b < w.heap.size := by
   rcases Nat.lt_or_ge b w.heap.size with h' | h'
   ·exact h'
   ·simp [Array.getElem?_eq_none h'] at hbk
  rcases r1 with ⟨la', hla', ⟨rfl, rfl, h0, _⟩ | ⟨g, cap, curg, e, rfl, rfl, hnc, hcm, hrowg, hszg⟩⟩ | ⟨hd, _⟩
  ·have hln := List.eq_nil_of_length_eq_zero h0
   subst hln
   refine (Tryz.bldS_nil b w.heap.size w hcell).mono ?_
   rintro e w' ⟨rfl, hb⟩
   exact fin _ w' (fun b hb => by rw [hla'] at hb; cases hb) (fun _ => Nat.le_refl _) (Nat.zero_le _) hb
  ·rw [hla] at hla'
   cases hla'
   obtain ⟨_, cur2, vs2, rest2, hrow2, hcl2, hrl2⟩ := hora
   obtain ⟨lo2, hi2, hbg, hfr2⟩ := hrow2
   obtain ⟨lo3, hi3, hbg3, hfr3⟩ := hrowg
   rw [hbg] at hbg3
   cases hbg3
   have hvs := repL_byt hrl2
   subst hvs
   have hb1 : ∀ b, μ.loc aid = some (aver, some b) → b = g := fun b hb => by rw [hla] at hb; cases hb; rfl
   by_cases h0 : l = []
   ·subst h0
    by_cases hc0 : cap = 0
    ·subst hc0
     refine (Tryz.bldS_noroom b g curg _ w hlt hcell hbg).mono ?_
     rintro e w' ⟨rfl, hb⟩
     exact fin g w' hb1 (fun e => by cases e) (Nat.zero_le _) hb
    ·refine (Tryz.bldS_room b g cap w hc0 hcell).mono ?_
     rintro e w' ⟨rfl, hb⟩
     exact fin g w' hb1 (fun e => by cases e) (Nat.zero_le _) hb
   ·refine (Tryz.bldS_some b g cap curg _ l w h0 hcell hbg hnc (by omega) hcm fun j x hj => ?_).mono ?_
    ·rw [← Array.getElem?_toList, hcl2, List.getElem?_append_left (by
      have := (List.getElem?_eq_some_iff.1 hj).1
      simpa using this), List.getElem?_map, hj]
     rfl
    ·rintro e w' ⟨rfl, hb⟩
     exact fin g w' hb1 (fun e => by cases e) (by omega) hb
  ·exact absurd hla (hd.2 _)
 ·exact absurd hl (hd.2 _)
end Go.AW
namespace Go.AW
open Go Go.Proofs
set_option maxRecDepth 100000 in
theorem c_WriteString {H : Heap} {K : HV → Heap → Prop} {id ver aid aver : Nat} {u : Bool} {l m : List UInt8} (hid : aid ≠ id) (hg : hget H id = some (ver, bldO id ver aid aver u l)) (ha : hget H aid = some (aver, bytO l)) (hfit : fits 1 (l.length + m.length))
    (hK : ∀ av, K (.tup [.int .i64 (m.length : Int), .v .nilIface]) ((id, ver, bldO id ver aid av true (l ++ m)) :: (aid, av, bytO (l ++ m)) :: H)) : ACall Tryz.prog 54 [.ptr id ver 0, .str m] H K := by
  refine ACall.of_body Tryz.func54 rfl rfl (lb rfl) ?_
  unfold Tryz.f54
  dsimp only [qaG, Nat.reduceAdd]
  refine AW.rgs rfl fun K1 hK1 => ?_
  refine mv rfl rfl (mv rfl rfl ?_)
  refine qah (hK1 _ (AW.to (qbd (s' := ⟨[(0, .ptr id ver 0), (1, .str m)], H⟩) (le_slH ⟨rfl, rfl, trivial⟩) ?_)))
  clear hK1 K1
  refine AW.rgs rfl fun K1 hK1 => ?_
  refine mv rfl rfl ?_
  refine b_op rfl (o_callA rfl rfl rfl rfl (c_copyCheck hg ?_))
  refine qah (hK1 _ (AW.to (qbd (s' := ⟨[(0, .ptr id ver 0), (1, .str m)], (id, ver, .arr 2 80 [.ptr id ver 0, .ar aid aver 1 0 l.length]) :: H⟩) (le_slH ⟨rfl, rfl, trivial⟩) ?_)))
  clear hK1 K1
  have ha1 : hget ((id, ver, AObj.arr 2 80 [.ptr id ver 0, .ar aid aver 1 0 l.length]) :: H) aid = some (aver, .arr eByte.k 5 (eByte.E l)) := hget_1 hid ha
  refine AW.rgs rfl fun K1 hK1 => ?_
  refine mv rfl rfl (mv rfl rfl (bv rfl (v_nilP rfl hget_0) (bv rfl (qar fo80_1 rfl hget_0) (bv rfl (qas ty28 rfl hget_0 (qam rfl rfl)) (mv rfl rfl ?_)))))
  refine b_op rfl (o_appS (l := l) (m := m) rfl rfl ty28 ty9 ty5 rfl ha1 rfl rfl rfl hfit (fun av => ?_))
  refine bv rfl (v_nilP rfl (hget_1 (fun e => hid e.symm) hget_0)) (bv rfl (qar fo80_1 rfl (hget_1 (fun e => hid e.symm) hget_0)) ?_)
  refine b_op rfl (qaH (cs := [.ar aid av 1 0 (l ++ m).length]) (zs := [.ptr id ver 0, .ar aid av 1 0 (l ++ m).length]) rfl rfl rfl ty28 rfl (hget_1 (fun e => hid e.symm) hget_0) rfl rfl rfl ?_)
  refine qah (hK1 _ (AW.to (qbd (s' := ⟨[(1, .str m)], (id, ver, .arr 2 80 [.ptr id ver 0, .ar aid av 1 0 (l ++ m).length]) :: (aid, av, .arr 1 5 (eByte.E (l ++ m))) :: H⟩) ⟨qaL ⟨rfl, trivial⟩, fun j x hx => ?_⟩ ?_)))
  · simp only [hget] at hx ⊢
    by_cases h1 : j = id
    · subst h1; simpa using hx
    · rw [if_neg h1] at hx ⊢
      by_cases h2 : j = aid
      · rw [if_pos h2] at hx ⊢; exact hx
      · rw [if_neg h2] at hx
        rw [if_neg h2, if_neg h1]
        exact hx
  clear hK1 K1
  refine AW.rgs rfl fun K1 hK1 => ?_
  refine mv rfl rfl (bv rfl (v_lenS rfl rfl ty9 rfl) (mv rfl rfl (mv rfl rfl ?_)))
  refine qah (hK1 _ (AW.to (qbd (s' := ⟨[(4, .int .i64 (m.length : Int)), (5, .v .nilIface)], (id, ver, .arr 2 80 [.ptr id ver 0, .ar aid av 1 0 (l ++ m).length]) :: (aid, av, .arr 1 5 (eByte.E (l ++ m))) :: H⟩) (le_slH ⟨rfl, rfl, trivial⟩) ?_)))
  clear hK1 K1
  refine AW.ret ⟨.inr rfl, ?_⟩
  simp only [go_sem]
  exact ⟨_, _, Conv.refl _ _, hK av⟩
end Go.AW
namespace Go.AW
open Go
noncomputable def m_integer_short (p0 : List (Int)) (p1 : Int) : Option ((List (Int)) × Int) :=
 if 0 ≤ (((p0).length : Int) : Int) ∧ (((p0).length : Int) : Int) ≤ ((p0).length : Int) ∧ (((p0).length : Int) : Int) * 4 ≤ 281474976710656 then
  (loopW (S := Int × Int × (List Int)) (X := (List Int) × Int) (fun a3 =>
      if 0 ≤ a3.2.1 then
       (idx p0 a3.2.1).bind fun x7 =>
       if (IntKind.wrap .u64 p1) ≠ 0 then
        if (IntKind.wrap .u64 p1) ≠ 0 then
         (idx a3.2.2 a3.2.1).bind fun x91101 =>
         some (Stp.next (Int.tmod (IntKind.wrap .u64 (BitVec.ofInt (IntKind.bits .u64) (IntKind.wrap .u64 (a3.1 * 2 ^ (min (32 : Int).toNat (IntKind.bits .u64)))) ||| BitVec.ofInt (IntKind.bits .u64) (IntKind.wrap .u64 x7)).toNat) (IntKind.wrap .u64 p1), IntKind.wrap .i64 (a3.2.1 - 1), (a3.2.2).set (a3.2.1).toNat (IntKind.wrap .u32 (IntKind.wrap .u64 (Int.tdiv (IntKind.wrap .u64 (BitVec.ofInt (IntKind.bits .u64) (IntKind.wrap .u64 (a3.1 * 2 ^ (min (32 : Int).toNat (IntKind.bits .u64)))) ||| BitVec.ofInt (IntKind.bits .u64) (IntKind.wrap .u64 x7)).toNat) (IntKind.wrap .u64 p1))))))
        else none
       else none
      else
       some (Stp.exit (a3.2.2, a3.1))) (0, IntKind.wrap .i64 (((p0).length : Int) - 1), List.replicate (((p0).length : Int)).toNat (0 : Int))).bind fun a10 =>
  (m_integer_trim a10.1).bind fun x12 =>
  some (x12, IntKind.wrap .u32 a10.2)
 else none
end Go.AW
namespace Go.AW
open Go Go.Proofs
set_option maxHeartbeats 1600000
set_option maxRecDepth 100000
theorem w_integer_trim {p0 : List (Int)} {r : (List (Int))} (h : m_integer_trim p0 = some r) : Pure Tryz.prog 124 [slE (encM (HV.int .u32)) p0] (· = slE (encM (HV.int .u32)) r) := by
 unfold m_integer_trim at h
 refine Pure.of_body Tryz.func124 rfl rfl (lb rfl) fun hf => ?_
 unfold Tryz.f124
 dsimp only [qaG, Nat.reduceAdd]
 refine AW.rgs rfl fun K hK => mv rfl rfl ?_
 refine bf hK ⟨[(0, slE (encM (HV.int .u32)) p0)], []⟩ ?_
 refine AW.seq (AW.lpX h qa5 (S := (List Int)) (V := Unit) (fun a v => ⟨[(0, slE (encM (HV.int .u32)) a)], []⟩) ?_ (X := (List Int)) (W := Unit) (fun a v => ⟨[(0, slE (encM (HV.int .u32)) a)], []⟩) (fun a12 w13 h => ?_) (fun a1 w2 st3 h => ?_))
 ·exact to_L ⟨(), rfl⟩
 ·refine AW.rgs rfl fun K hK => mv rfl rfl (mv rfl rfl ?_)
  refine bf hK ⟨[(2, slE (encM (HV.int .u32)) a12)], []⟩ ?_
  obtain rfl := oi h
  exact AW.ret (qac (.inr rfl) (resT rfl rfl) rfl (qao fun _ _ => ⟨trivial, trivial⟩))
 refine AW.seq ?_
 refine AW.seqJ h (S := Bool) (V := Unit) (fun a v => ⟨[(0, slE (encM (HV.int .u32)) a1), (14, .bool a)], []⟩) (fun a5 w6 h => ?_) (fun k7 h => ?_)
 ·refine AW.cond rfl (fun hc => ?_) (fun hc => ?_)
  ·have h := ifT hc h
   refine AW.skip ?_
   refine AW.block ?_
   refine AW.rg rfl fun K hK => mv rfl rfl (mv rfl rfl (bv rfl (qaI rfl rfl ty107 rfl) (bv rfl (qaf rfl rfl b_sub) ?_)))
   obtain ⟨h8, h⟩ := ifN h
   refine bv rfl (v_sliceF (encM (HV.int .u32)) ty107 es107 rfl rfl rfl h8) (mv rfl rfl ?_)
   refine qah (hK _ ?_)
   exact to_L ⟨(a1.take (IntKind.wrap .i64 (((a1).length : Int) - 1)).toNat).drop (0 : Int).toNat, (), h, rfl⟩
  have h := ifF (bF' hc) h
  refine AW.exit ?_
  exact to_L ⟨a1, (), h, rfl⟩
 refine AW.rg rfl fun K hK => mv rfl rfl (bv rfl (qaI rfl rfl ty107 rfl) (bv rfl (qaf rfl rfl b_gtr) (mv rfl rfl ?_)))
 by_cases hg11 : 0 < ((a1).length : Int)
 ·have h := ifT hg11 h
  refine b_T rfl rfl rfl rfl (decide_eq_true hg11) (qai rfl (qaR rfl rfl).2 ?_)
  refine b_T rfl rfl rfl rfl rfl (qai rfl (qaR rfl rfl).2 ?_)
  refine b_T rfl rfl rfl rfl rfl (qai rfl (qaI rfl rfl ty107 rfl) ?_)
  refine b_T rfl rfl rfl rfl rfl (qai rfl (qaf rfl rfl b_sub) ?_)
  obtain ⟨x9, h10, h⟩ := bS h
  refine b_T rfl rfl rfl rfl rfl (qai rfl (qaW ty107 es107 rfl rfl (qaO h10)) ?_)
  refine b_T rfl rfl rfl rfl rfl (qai rfl (qab ty105 rfl (qaZ (encM (HV.int .u32)) h10 (o := 0) rfl rfl)) ?_)
  refine b_T rfl rfl rfl rfl rfl (qai rfl (qaf rfl rfl b_eql) ?_)
  refine bv rfl (qak rfl rfl rfl) ?_
  refine qah (hK _ ?_)
  exact to_L ⟨decide (x9 = 0), (), h, rfl⟩
 have h := ifF hg11 h
 refine b_F rfl rfl rfl rfl rfl (decide_eq_false hg11) ?_
 iterate 6 refine b_F rfl rfl rfl rfl rfl rfl ?_
 refine bv rfl (qan rfl rfl rfl) ?_
 refine qah (hK _ ?_)
 exact to_L ⟨false, (), h, rfl⟩
theorem w_integer_number {p0 : Bool} {p1 : List (Int)} {r : TNegMag} (h : m_integer_number p0 p1 = some r) : Pure Tryz.prog 71 [.bool p0, slE (encM (HV.int .u32)) p1] (· = HV.agg [.bool r.1, .str r.2]) := by
 unfold m_integer_number at h
 refine Pure.of_body Tryz.func71 rfl rfl (lb rfl) fun hf => ?_
 unfold Tryz.f71
 dsimp only [qaG, Nat.reduceAdd]
 refine AW.rgs rfl fun K hK => b_op rfl (qbj (fid := 71) (zs := [.bool false, .str nS]) 71004 rfl rfl ty42 rfl (fun v1 => ?_))
 let O2 : Nat × Nat × AObj := (71004, v1, .arr 2 42 [.bool false, .str nS])
 let P1 : ASf := fun t H => ⟨(0, .bool p0) :: t, O2 :: H⟩
 refine bf hK (P1 [(1, slE (encM (HV.int .u32)) p1), (4, .ptr 71004 v1 0)] []) ?_
 refine AW.rgs rfl fun K hK => mv rfl rfl ?_
 obtain ⟨x2, h3, h⟩ := bS h
 refine b_op rfl (qay rfl rfl rfl rfl (ACallD.pure0 (w_integer_trim h3)) ?_)
 refine mv rfl rfl ?_
 let E3 : Nat × HV := (1, slE (encM (HV.int .u32)) x2)
 refine bf hK (P1 [E3, (4, .ptr 71004 v1 0)] []) ?_
 refine AW.seq ?_
 refine AW.rgs rfl fun K hK => mv rfl rfl (bv rfl (qaI rfl rfl ty107 rfl) (bv rfl (qaf rfl rfl b_eql) ?_))
 refine bf hK (P1 [E3, (4, .ptr 71004 v1 0), (13, .bool (decide (((x2).length : Int) = 0)))] []) ?_
 refine AW.cond rfl (fun hc => ?_) (fun hc => ?_)
 ·obtain ⟨hc, h⟩ := cT hc h
  refine AW.rgs rfl fun K hK => b_op rfl (o_build (cs := [.bool false, .str nS]) rfl (bl_of ty42 rfl rfl rfl rfl) ?_)
  refine b_op rfl (qaH (cs := [.bool false, .str nS]) (zs := [.bool false, .str nS]) rfl rfl rfl ty42 rfl rfl rfl rfl rfl ?_)
  refine bf hK ⟨[(4, .ptr 71004 v1 0)], [O2]⟩ ?_
  obtain rfl := oi h
  exact AW.ret (qac (.inr rfl) (resP ty42 rfl rfl (qaz rfl (lb rfl) rfl) rfl) rfl ⟨trivial, trivial, trivial⟩)
 obtain ⟨hc, h⟩ := cF hc h
 refine AW.skip ?_
 refine AW.rgs rfl fun K hK => mv rfl rfl (bv rfl (qaI rfl rfl ty107 rfl) (bv rfl (qaf rfl rfl b_mul) ?_))
 obtain ⟨h5, h⟩ := ifN h
 refine b_op rfl (o_makeE (fid := 71) eU8 (0 : Int) 71018 rfl rfl ty28 rfl rfl ty5 rfl rfl h5 (fun v4 => ?_))
 refine mv rfl rfl ?_
 let E4 : Nat × HV := (5, .ar 71018 v4 eU8.k 0 ((List.replicate (0 : Int).toNat (0 : Int)).length))
 let O5 : Nat × Nat × AObj := (71018, v4, .arr eU8.k 5 (eU8.E (List.replicate (0 : Int).toNat (0 : Int))))
 refine bf hK (P1 [E3, (4, .ptr 71004 v1 0), E4] [O5]) ?_
 refine AW.seq ?_
 refine AW.rgs rfl fun K hK => mv rfl rfl (bv rfl (qaI rfl rfl ty107 rfl) (bv rfl (qaf rfl rfl b_sub) (mv rfl rfl ?_)))
 refine bf hK (P1 [E3, (4, .ptr 71004 v1 0), E4, (6, hI (IntKind.wrap .i64 (((x2).length : Int) - 1)))] [O5]) ?_
 refine AW.lpX h (by first | exact qa5 | exact up_to) (S := Int × (List Int)) (V := Nat) (fun a v => (P1 [E3, (4, .ptr 71004 v1 0), (5, .ar 71018 v eU8.k 0 ((a.2).length)), (6, hI a.1)] [(71018, v, .arr eU8.k 5 (eU8.E a.2))])) ?_ (X := (List Int)) (W := Nat) (fun a v => (P1 [(4, .ptr 71004 v1 0), (5, .ar 71018 v eU8.k 0 ((a).length))] [(71018, v, .arr eU8.k 5 (eU8.E a))])) (fun a28 w29 h => ?_) (fun a6 w7 st8 h => ?_)
 ·exact to_L ⟨v4, rfl⟩
 ·refine AW.to (to_frz 2 [(71018, w29, .arr eU8.k 5 (eU8.E a28))] (P1 [(4, .ptr 71004 v1 0), (5, slE eU8 a28)] []) ⟨⟨_, rfl, rfl⟩, ⟨_, rfl, rfl⟩, ⟨_, rfl, frz_slE eU8 (l := a28) rfl fun _ _ => rfl⟩, trivial⟩ ⟨rfl, trivial⟩ ⟨rfl, trivial⟩ ⟨rfl, trivial⟩ ?_)
  refine AW.rgs rfl fun K hK => mv rfl rfl (mv rfl rfl (bv rfl (v_convB (l := a28) ty28 ty5 ty9 rfl) ?_))
  refine b_op rfl (o_build (cs := [.bool p0, .str (a28.map fun (n : Int) => UInt8.ofNat n.toNat)]) rfl (bl_of ty42 rfl rfl rfl rfl) ?_)
  refine b_op rfl (qaH (cs := [.bool p0, .str (a28.map fun (n : Int) => UInt8.ofNat n.toNat)]) (zs := [.bool p0, .str (a28.map fun (n : Int) => UInt8.ofNat n.toNat)]) rfl rfl rfl ty42 rfl rfl rfl rfl rfl ?_)
  refine bf hK ⟨[(4, .ptr 71004 v1 0)], [(71004, v1, .arr 2 42 [.bool p0, .str (a28.map fun (n : Int) => UInt8.ofNat n.toNat)])]⟩ ?_
  obtain rfl := oi h
  exact AW.ret (qac (.inr rfl) (resP ty42 rfl rfl (qaz rfl (lb rfl) rfl) rfl) rfl ⟨trivial, trivial, trivial⟩)
 refine AW.seq ?_
 refine AW.rgs rfl fun K hK => mv rfl rfl (bv rfl (qaf rfl rfl b_geq) ?_)
 refine bf hK (P1 [E3, (4, .ptr 71004 v1 0), (5, .ar 71018 w7 eU8.k 0 ((a6.2).length)), (6, hI a6.1), (23, .bool (decide (0 ≤ a6.1)))] [(71018, w7, .arr eU8.k 5 (eU8.E a6.2))]) ?_
 refine AW.cond rfl (fun hc => ?_) (fun hc => ?_)
 ·obtain ⟨hc, h⟩ := cT hc h
  refine AW.skip ?_
  refine AW.seq (AW.block ?_)
  refine AW.rgs rfl fun K hK => mv rfl rfl ?_
  refine bf hK (P1 [E3, (4, .ptr 71004 v1 0), (5, .ar 71018 w7 eU8.k 0 ((a6.2).length)), (6, hI a6.1), (7, hI 3)] [(71018, w7, .arr eU8.k 5 (eU8.E a6.2))]) ?_
  refine AW.lpX h (by first | exact qa5 | exact up_to) (S := Int × (List Int)) (V := Nat) (fun a v => (P1 [E3, (4, .ptr 71004 v1 0), (5, .ar 71018 v eU8.k 0 ((a.2).length)), (6, hI a6.1), (7, hI a.1)] [(71018, v, .arr eU8.k 5 (eU8.E a.2))])) ?_ (X := (List Int)) (W := Nat) (fun a v => (P1 [E3, (4, .ptr 71004 v1 0), (5, .ar 71018 v eU8.k 0 ((a).length)), (6, hI a6.1)] [(71018, v, .arr eU8.k 5 (eU8.E a))])) (fun a26 w27 h => ?_) (fun a10 w11 st12 h => ?_)
  ·exact to_L ⟨w7, rfl⟩
  ·refine AW.rg rfl fun K hK => mv rfl rfl (bv rfl (qaf rfl rfl b_sub) (mv rfl rfl ?_))
   refine qah (hK _ ?_)
   exact to_L ⟨(IntKind.wrap .i64 (a6.1 - 1), a26), w27, h, rfl⟩
  refine AW.seq ?_
  refine AW.rgs rfl fun K hK => mv rfl rfl (bv rfl (qaf rfl rfl b_geq) ?_)
  let E6 : Nat × HV := (5, .ar 71018 w11 eU8.k 0 ((a10.2).length))
  let O7 : Nat × Nat × AObj := (71018, w11, .arr eU8.k 5 (eU8.E a10.2))
  refine bf hK (P1 [E3, (4, .ptr 71004 v1 0), E6, (6, hI a6.1), (7, hI a10.1), (27, .bool (decide (0 ≤ a10.1)))] [O7]) ?_
  refine AW.cond rfl (fun hc => ?_) (fun hc => ?_)
  ·obtain ⟨hc, h⟩ := cT hc h
   refine AW.skip ?_
   refine AW.seqJ h (S := (List Int)) (V := Nat) (fun a v => (P1 [E3, (4, .ptr 71004 v1 0), (5, .ar 71018 v eU8.k 0 ((a).length)), (6, hI a6.1), (7, hI a10.1)] [(71018, v, .arr eU8.k 5 (eU8.E a))])) (fun a14 w15 h => ?_) (fun k16 h => ?_)
   ·refine AW.rg rfl fun K hK => mv rfl rfl (bv rfl (qaf rfl rfl b_sub) (mv rfl rfl ?_))
    refine qah (hK _ ?_)
    exact to_L ⟨(IntKind.wrap .i64 (a10.1 - 1), a14), w15, h, rfl⟩
   refine AW.block ?_
   refine AW.rgs rfl fun K hK => mv rfl rfl (mv rfl rfl ?_)
   obtain ⟨x17, h18, h⟩ := bS h
   refine bv rfl (qaW ty107 es107 rfl rfl (qaO h18)) (bv rfl (qab ty105 rfl (qaZ (encM (HV.int .u32)) h18 (o := 0) rfl rfl)) (mv rfl rfl (bv rfl (qaf rfl rfl b_mul) ?_)))
   obtain ⟨h19, h⟩ := ifN h
   refine bv rfl (qaf rfl rfl (b_shr h19)) (bv rfl (v_convI ty105 ty5 rfl) (mv rfl rfl ?_))
   let E8 : Nat × HV := (8, .int .u8 (IntKind.wrap .u8 (Int.fdiv x17 (2 ^ (min ((IntKind.wrap .i64 (8 * a10.1))).toNat (IntKind.bits .u32))))))
   refine bf hK (P1 [E3, (4, .ptr 71004 v1 0), E6, (6, hI a6.1), (7, hI a10.1), E8] [O7]) ?_
   refine AW.seqJ h (S := Bool) (V := Unit) (fun a v => (P1 [E3, (4, .ptr 71004 v1 0), E6, (6, hI a6.1), (7, hI a10.1), E8, (44, .bool a)] [O7])) (fun a20 w21 h => ?_) (fun k22 h => ?_)
   ·refine AW.cond rfl (fun hc => ?_) (fun hc => ?_)
    ·have h := ifT hc h
     refine AW.rg rfl fun K hK => mv rfl rfl (mv rfl rfl ?_)
     refine b_op rfl (o_bsl rfl rfl (as_of (cs := [.int .u8 (IntKind.wrap .u8 (Int.fdiv x17 (2 ^ (min ((IntKind.wrap .i64 (8 * a10.1))).toNat (IntKind.bits .u32)))))]) ty28 ty5 rfl rfl rfl rfl rfl) ?_)
     obtain ⟨h24, h⟩ := ifN h
     refine b_op rfl (o_appE eU8 (l := a10.2) (m := [IntKind.wrap .u8 (Int.fdiv x17 (2 ^ (min ((IntKind.wrap .i64 (8 * a10.1))).toNat (IntKind.bits .u32))))]) rfl rfl ty28 ty28 ty5 rfl rfl rfl rfl rfl h24 (fun v23 => ?_))
     refine mv rfl rfl ?_
     refine qah (hK _ ?_)
     exact to_L ⟨a10.2 ++ [IntKind.wrap .u8 (Int.fdiv x17 (2 ^ (min ((IntKind.wrap .i64 (8 * a10.1))).toNat (IntKind.bits .u32))))], v23, h, rfl⟩
    have h := ifF (bF' hc) h
    refine AW.skip ?_
    exact to_L ⟨a10.2, w11, h, rfl⟩
   refine AW.rg rfl fun K hK => mv rfl rfl (bv rfl (qaf rfl rfl b_neq) (mv rfl rfl ?_))
   by_cases hg25 : (IntKind.wrap .u8 (Int.fdiv x17 (2 ^ (min ((IntKind.wrap .i64 (8 * a10.1))).toNat (IntKind.bits .u32))))) ≠ 0
   ·have h := ifT hg25 h
    refine b_F rfl rfl rfl rfl rfl (decide_eq_true hg25) ?_
    iterate 2 refine b_F rfl rfl rfl rfl rfl rfl ?_
    refine bv rfl (qak rfl rfl rfl) ?_
    refine qah (hK _ ?_)
    exact to_L ⟨true, (), h, rfl⟩
   have h := ifF hg25 h
   refine b_T rfl rfl rfl rfl (decide_eq_false hg25) (qai rfl (qaR rfl rfl).2 ?_)
   refine b_T rfl rfl rfl rfl rfl (qai rfl (v_lenA rfl rfl ty28 rfl rfl) ?_)
   refine b_T rfl rfl rfl rfl rfl (qai rfl (qaf rfl rfl b_gtr) ?_)
   refine bv rfl (qan rfl rfl rfl) ?_
   refine qah (hK _ ?_)
   exact to_L ⟨decide (0 < (((a10.2).length : Nat) : Int)), (), h, rfl⟩
  obtain ⟨hc, h⟩ := cF hc h
  refine AW.exit ?_
  exact to_L ⟨a10.2, w11, h, rfl⟩
 obtain ⟨hc, h⟩ := cF hc h
 refine AW.exit ?_
 exact to_L ⟨a6.2, w7, h, rfl⟩
theorem w_integer_short {p0 : List (Int)} {p1 : Int} {r : (List (Int)) × Int} (h : m_integer_short p0 p1 = some r) : Pure Tryz.prog 200 [slE (encM (HV.int .u32)) p0, .int .u32 p1] (· = HV.tup [slE (encM (HV.int .u32)) r.1, .int .u32 r.2]) := by
 unfold m_integer_short at h
 refine Pure.of_body Tryz.func200 rfl rfl (lb rfl) fun hf => ?_
 unfold Tryz.f200
 dsimp only [qaG, Nat.reduceAdd]
 refine AW.rgs rfl fun K hK => mv rfl rfl (mv rfl rfl ?_)
 let E1 : Nat × HV := (0, slE (encM (HV.int .u32)) p0)
 let P2 : ASf := fun t H => ⟨E1 :: (1, .int .u32 p1) :: t, H⟩
 refine bf hK (P2 [] []) ?_
 refine AW.rgs rfl fun K hK => mv rfl rfl (bv rfl (qaI rfl rfl ty107 rfl) ?_)
 obtain ⟨h2, h⟩ := ifN h
 refine b_op rfl (o_makeE (fid := 200) (encM (HV.int .u32)) (0 : Int) 200012 rfl rfl ty107 rfl rfl ty105 rfl rfl h2 (fun v1 => ?_))
 refine mv rfl rfl ?_
 let E9 : Nat × HV := (6, .ar 200012 v1 (encM (HV.int .u32)).k 0 ((List.replicate (((p0).length : Int)).toNat (0 : Int)).length))
 let O10 : Nat × Nat × AObj := (200012, v1, .arr (encM (HV.int .u32)).k 105 ((encM (HV.int .u32)).E (List.replicate (((p0).length : Int)).toNat (0 : Int))))
 refine bf hK (P2 [E9] [O10]) ?_
 refine AW.rgs rfl fun K hK => mv rfl rfl ?_
 refine bf hK (P2 [E9, (7, .int .u64 0)] [O10]) ?_
 refine AW.seq ?_
 refine AW.rgs rfl fun K hK => mv rfl rfl (bv rfl (qaI rfl rfl ty107 rfl) (bv rfl (qaf rfl rfl b_sub) (mv rfl rfl ?_)))
 refine bf hK (P2 [E9, (7, .int .u64 0), (8, hI (IntKind.wrap .i64 (((p0).length : Int) - 1)))] [O10]) ?_
 refine AW.lpX h (by first | exact qa5 | exact up_to) (S := Int × Int × (List Int)) (V := Unit) (fun a v => (P2 [(6, .ar 200012 v1 (encM (HV.int .u32)).k 0 ((a.2.2).length)), (7, .int .u64 a.1), (8, hI a.2.1)] [(200012, v1, .arr (encM (HV.int .u32)).k 105 ((encM (HV.int .u32)).E a.2.2))])) ?_ (X := (List Int) × Int) (W := Unit) (fun a v => ⟨[(6, .ar 200012 v1 (encM (HV.int .u32)).k 0 ((a.1).length)), (7, .int .u64 a.2)], [(200012, v1, .arr (encM (HV.int .u32)).k 105 ((encM (HV.int .u32)).E a.1))]⟩) (fun a10 w11 h => ?_) (fun a3 w4 st5 h => ?_)
 ·exact to_L ⟨(), rfl⟩
 ·refine AW.to (to_frz 2 [(200012, v1, .arr (encM (HV.int .u32)).k 105 ((encM (HV.int .u32)).E a10.1))] ⟨[(6, slE (encM (HV.int .u32)) a10.1), (7, .int .u64 a10.2)], []⟩ ⟨⟨_, rfl, frz_slE (encM (HV.int .u32)) (l := a10.1) rfl fun _ _ => rfl⟩, ⟨_, rfl, rfl⟩, trivial⟩ trivial ⟨rfl, trivial⟩ ⟨rfl, trivial⟩ ?_)
  refine AW.rgs rfl fun K hK => mv rfl rfl ?_
  obtain ⟨x12, h13, h⟩ := bS h
  refine b_op rfl (qay rfl rfl rfl rfl (ACallD.pure0 (w_integer_trim h13)) ?_)
  refine mv rfl rfl (bv rfl (v_convI ty103 ty105 rfl) (mv rfl rfl (mv rfl rfl ?_)))
  refine bf hK ⟨[(4, slE (encM (HV.int .u32)) x12), (5, .int .u32 (IntKind.wrap .u32 a10.2))], []⟩ ?_
  obtain rfl := oi h
  exact AW.ret (qac (.inr rfl) (resT rfl (resT rfl rfl)) rfl ⟨(qao fun _ _ => ⟨trivial, trivial⟩), trivial, trivial⟩)
 refine AW.seq ?_
 refine AW.rgs rfl fun K hK => mv rfl rfl (bv rfl (qaf rfl rfl b_geq) ?_)
 let E11 : Nat × HV := (6, .ar 200012 v1 (encM (HV.int .u32)).k 0 ((a3.2.2).length))
 let O12 : Nat × Nat × AObj := (200012, v1, .arr (encM (HV.int .u32)).k 105 ((encM (HV.int .u32)).E a3.2.2))
 refine bf hK (P2 [E11, (7, .int .u64 a3.1), (8, hI a3.2.1), (17, .bool (decide (0 ≤ a3.2.1)))] [O12]) ?_
 refine AW.cond rfl (fun hc => ?_) (fun hc => ?_)
 ·obtain ⟨hc, h⟩ := cT hc h
  refine AW.skip ?_
  refine AW.seq (AW.block ?_)
  refine AW.rgs rfl fun K hK => mv rfl rfl (bv rfl (qaf rfl rfl (b_shl (by decide))) (mv rfl rfl (mv rfl rfl ?_)))
  obtain ⟨x7, h8, h⟩ := bS h
  refine bv rfl (qaW ty107 es107 rfl rfl (qaO h8)) (bv rfl (qab ty105 rfl (qaZ (encM (HV.int .u32)) h8 (o := 0) rfl rfl)) (bv rfl (v_convI ty105 ty103 rfl) (bv rfl (qaf rfl rfl b_or) (mv rfl rfl ?_))))
  let E13 : Nat × HV := (9, .int .u64 (IntKind.wrap .u64 (BitVec.ofInt (IntKind.bits .u64) (IntKind.wrap .u64 (a3.1 * 2 ^ (min (32 : Int).toNat (IntKind.bits .u64)))) ||| BitVec.ofInt (IntKind.bits .u64) (IntKind.wrap .u64 x7)).toNat))
  refine bf hK (P2 [E11, (8, hI a3.2.1), E13] [O12]) ?_
  refine AW.dl follows fun K hK F hF => ?_
  obtain ⟨h90501, h⟩ := ifN h
  obtain ⟨h91001, h⟩ := ifN h
  obtain ⟨x91101, h91102, h⟩ := bS h
  refine l_go (L' := []) hF rfl (s' := (P2 [E11, (8, hI a3.2.1), E13] [O12])) ?_ (le_q rfl rfl)
  let E14 : Nat × HV := (7, .int .u64 (Int.tmod (IntKind.wrap .u64 (BitVec.ofInt (IntKind.bits .u64) (IntKind.wrap .u64 (a3.1 * 2 ^ (min (32 : Int).toNat (IntKind.bits .u64)))) ||| BitVec.ofInt (IntKind.bits .u64) (IntKind.wrap .u64 x7)).toNat) (IntKind.wrap .u64 p1)))
  let O15 : Nat × Nat × AObj := (200012, v1, .arr (encM (HV.int .u32)).k 105 ((encM (HV.int .u32)).E ((a3.2.2).set (a3.2.1).toNat (IntKind.wrap .u32 (IntKind.wrap .u64 (Int.tdiv (IntKind.wrap .u64 (BitVec.ofInt (IntKind.bits .u64) (IntKind.wrap .u64 (a3.1 * 2 ^ (min (32 : Int).toNat (IntKind.bits .u64)))) ||| BitVec.ofInt (IntKind.bits .u64) (IntKind.wrap .u64 x7)).toNat) (IntKind.wrap .u64 p1)))))))
  have g9_14 : F [0, 1, 2, 3, 4, 5, 6, 7, 8, 9, 10, 11, 12, 13] (P2 [E11, E14, (8, hI a3.2.1)] [O15]) := by
   refine l_done hF rfl rfl (hK _ (AW.to (qbd (s' := (P2 [(6, .ar 200012 v1 (encM (HV.int .u32)).k 0 (((a3.2.2).set (a3.2.1).toNat (IntKind.wrap .u32 (IntKind.wrap .u64 (Int.tdiv (IntKind.wrap .u64 (BitVec.ofInt (IntKind.bits .u64) (IntKind.wrap .u64 (a3.1 * 2 ^ (min (32 : Int).toNat (IntKind.bits .u64)))) ||| BitVec.ofInt (IntKind.bits .u64) (IntKind.wrap .u64 x7)).toNat) (IntKind.wrap .u64 p1))))).length)), E14, (8, hI a3.2.1)] [O15])) (AS.le_of ⟨rfl, rfl, arl (by first | rfl | simp only [List.length_set, sortI_len, sortS_len]), rfl, rfl, trivial⟩ ⟨rfl, trivial⟩) ?_)))
   refine AW.rg rfl fun K hK => mv rfl rfl (bv rfl (qaf rfl rfl b_sub) (mv rfl rfl ?_))
   refine qah (hK _ ?_)
   exact to_L ⟨(Int.tmod (IntKind.wrap .u64 (BitVec.ofInt (IntKind.bits .u64) (IntKind.wrap .u64 (a3.1 * 2 ^ (min (32 : Int).toNat (IntKind.bits .u64)))) ||| BitVec.ofInt (IntKind.bits .u64) (IntKind.wrap .u64 x7)).toNat) (IntKind.wrap .u64 p1), IntKind.wrap .i64 (a3.2.1 - 1), (a3.2.2).set (a3.2.1).toNat (IntKind.wrap .u32 (IntKind.wrap .u64 (Int.tdiv (IntKind.wrap .u64 (BitVec.ofInt (IntKind.bits .u64) (IntKind.wrap .u64 (a3.1 * 2 ^ (min (32 : Int).toNat (IntKind.bits .u64)))) ||| BitVec.ofInt (IntKind.bits .u64) (IntKind.wrap .u64 x7)).toNat) (IntKind.wrap .u64 p1))))), (), h, rfl⟩
  let P : ASf := fun t H => ⟨(0, slE (encM (HV.int .u32)) p0) :: (1, .int .u32 p1) :: (6, .ar 200012 v1 (encM (HV.int .u32)).k 0 ((a3.2.2).length)) :: (8, hI a3.2.1) :: (9, .int .u64 (IntKind.wrap .u64 (BitVec.ofInt (IntKind.bits .u64) (IntKind.wrap .u64 (a3.1 * 2 ^ (min (32 : Int).toNat (IntKind.bits .u64)))) ||| BitVec.ofInt (IntKind.bits .u64) (IntKind.wrap .u64 x7)).toNat)) :: (28, .ar 200012 v1 (encM (HV.int .u32)).k 0 ((a3.2.2).length)) :: t, (200012, v1, .arr (encM (HV.int .u32)).k 105 ((encM (HV.int .u32)).E a3.2.2)) :: H⟩
  let E16 : Nat × HV := (38, .int .u64 (Int.tmod (IntKind.wrap .u64 (BitVec.ofInt (IntKind.bits .u64) (IntKind.wrap .u64 (a3.1 * 2 ^ (min (32 : Int).toNat (IntKind.bits .u64)))) ||| BitVec.ofInt (IntKind.bits .u64) (IntKind.wrap .u64 x7)).toNat) (IntKind.wrap .u64 p1)))
  have g9_13 : F [0, 1, 2, 3, 4, 5, 6, 7, 8, 9, 10, 11, 12] (P2 [E11, (8, hI a3.2.1), E16] [O15]) := by
   refine l_step hF rfl [13] rfl rfl ⟨?_, trivial⟩
   ·exact l_ov rfl rfl rfl rfl (qaR rfl rfl).2 (lg hF (g9_14))
  let E17 : Nat × HV := (34, .int .u32 (IntKind.wrap .u32 (IntKind.wrap .u64 (Int.tdiv (IntKind.wrap .u64 (BitVec.ofInt (IntKind.bits .u64) (IntKind.wrap .u64 (a3.1 * 2 ^ (min (32 : Int).toNat (IntKind.bits .u64)))) ||| BitVec.ofInt (IntKind.bits .u64) (IntKind.wrap .u64 x7)).toNat) (IntKind.wrap .u64 p1)))))
  have g9_12 : F [0, 1, 2, 3, 4, 5, 6, 7, 8, 9, 10, 11] (P2 [E11, (8, hI a3.2.1), E17, E16, (39, .ptr 200012 v1 ((a3.2.1).toNat * (encM (HV.int .u32)).k))] [O12]) := by
   refine l_step hF rfl [12] rfl rfl ⟨?_, trivial⟩
   ·refine l_op rfl rfl rfl (o_storeE (encM (HV.int .u32)) (l := a3.2.2) (j := a3.2.1) (v := IntKind.wrap .u32 (IntKind.wrap .u64 (Int.tdiv (IntKind.wrap .u64 (BitVec.ofInt (IntKind.bits .u64) (IntKind.wrap .u64 (a3.1 * 2 ^ (min (32 : Int).toNat (IntKind.bits .u64)))) ||| BitVec.ofInt (IntKind.bits .u64) (IntKind.wrap .u64 x7)).toNat) (IntKind.wrap .u64 p1)))) rfl rfl rfl ty105 rfl rfl rfl (qaO h91102) ?_)
    exact qah (lg hF (g9_13))
  let E18 : Nat × HV := (28, .ar 200012 v1 (encM (HV.int .u32)).k 0 ((a3.2.2).length))
  have g9_11 : F [0, 1, 2, 3, 4, 5, 6, 7, 8, 9, 10] (P2 [E11, (8, hI a3.2.1), E18, (29, hI a3.2.1), E17, E16] [O12]) := by
   refine l_take (i := 11) hF rfl rfl rfl (v_idxA ty107 es107 rfl rfl (qaO h91102) rfl) ?_
   exact lg hF (g9_12)
  let E19 : Nat × HV := (35, .int .u64 (IntKind.wrap .u64 (BitVec.ofInt (IntKind.bits .u64) (IntKind.wrap .u64 (a3.1 * 2 ^ (min (32 : Int).toNat (IntKind.bits .u64)))) ||| BitVec.ofInt (IntKind.bits .u64) (IntKind.wrap .u64 x7)).toNat))
  have g9_10 : F [0, 1, 2, 3, 4, 5, 6, 7, 8, 9] (P2 [E11, (8, hI a3.2.1), E18, (29, hI a3.2.1), E17, E19, (37, .int .u64 (IntKind.wrap .u64 p1))] [O12]) := by
   refine l_takeW (i := 10) hF rfl rfl rfl (f_bin rfl rfl rfl (b_rem h91001) rfl) ?_
   exact lg hF (g9_11)
  have g9_9 : F [0, 1, 2, 3, 4, 5, 6, 7, 8] (P2 [E11, (8, hI a3.2.1), E18, (29, hI a3.2.1), E17, E19, (36, .int .u32 p1)] [O12]) := by
   refine l_takeW (i := 9) hF rfl rfl rfl (f_convI rfl ty105 ty103 rfl) ?_
   exact lg hF (g9_10)
  have g9_8 : F [0, 1, 2, 3, 4, 5, 6, 7] (P2 [E11, (8, hI a3.2.1), E18, (29, hI a3.2.1), E17, E19] [O12]) := by
   refine l_take (i := 8) hF rfl rfl rfl (qaR rfl rfl).2 ?_
   exact lg hF (g9_9)
  have g9_7 : F [0, 1, 2, 3, 4, 5, 6] (P [(29, hI a3.2.1), (34, .int .u32 (IntKind.wrap .u32 (IntKind.wrap .u64 (Int.tdiv (IntKind.wrap .u64 (BitVec.ofInt (IntKind.bits .u64) (IntKind.wrap .u64 (a3.1 * 2 ^ (min (32 : Int).toNat (IntKind.bits .u64)))) ||| BitVec.ofInt (IntKind.bits .u64) (IntKind.wrap .u64 x7)).toNat) (IntKind.wrap .u64 p1)))))] []) := by
   refine l_take (i := 7) hF rfl rfl rfl (qaR rfl rfl).2 ?_
   exact lg hF (g9_8)
  have g9_6 : F [0, 1, 2, 3, 4, 5] (P [(29, hI a3.2.1), (33, .int .u64 (IntKind.wrap .u64 (Int.tdiv (IntKind.wrap .u64 (BitVec.ofInt (IntKind.bits .u64) (IntKind.wrap .u64 (a3.1 * 2 ^ (min (32 : Int).toNat (IntKind.bits .u64)))) ||| BitVec.ofInt (IntKind.bits .u64) (IntKind.wrap .u64 x7)).toNat) (IntKind.wrap .u64 p1))))] []) := by
   refine l_takeW (i := 6) hF rfl rfl rfl (f_convI rfl ty103 ty105 rfl) ?_
   exact lg hF (g9_7)
  have g9_5 : F [0, 1, 2, 3, 4] (P [(29, hI a3.2.1), (30, .int .u64 (IntKind.wrap .u64 (BitVec.ofInt (IntKind.bits .u64) (IntKind.wrap .u64 (a3.1 * 2 ^ (min (32 : Int).toNat (IntKind.bits .u64)))) ||| BitVec.ofInt (IntKind.bits .u64) (IntKind.wrap .u64 x7)).toNat)), (32, .int .u64 (IntKind.wrap .u64 p1))] []) := by
   refine l_takeW (i := 5) hF rfl rfl rfl (f_bin rfl rfl rfl (b_quo h90501) rfl) ?_
   exact lg hF (g9_6)
  have g9_4 : F [0, 1, 2, 3] (P [(29, hI a3.2.1), (30, .int .u64 (IntKind.wrap .u64 (BitVec.ofInt (IntKind.bits .u64) (IntKind.wrap .u64 (a3.1 * 2 ^ (min (32 : Int).toNat (IntKind.bits .u64)))) ||| BitVec.ofInt (IntKind.bits .u64) (IntKind.wrap .u64 x7)).toNat)), (31, .int .u32 p1)] []) := by
   refine l_takeW (i := 4) hF rfl rfl rfl (f_convI rfl ty105 ty103 rfl) ?_
   exact lg hF (g9_5)
  have g9_3 : F [0, 1, 2] (P [(29, hI a3.2.1), (30, .int .u64 (IntKind.wrap .u64 (BitVec.ofInt (IntKind.bits .u64) (IntKind.wrap .u64 (a3.1 * 2 ^ (min (32 : Int).toNat (IntKind.bits .u64)))) ||| BitVec.ofInt (IntKind.bits .u64) (IntKind.wrap .u64 x7)).toNat))] []) := by
   refine l_take (i := 3) hF rfl rfl rfl (qaR rfl rfl).2 ?_
   exact lg hF (g9_4)
  have g9_2 : F [0, 1] (P [(29, hI a3.2.1)] []) := by
   refine l_take (i := 2) hF rfl rfl rfl (qaR rfl rfl).2 ?_
   exact lg hF (g9_3)
  have g9_1 : F [0] (P [] []) := by
   refine l_take (i := 1) hF rfl rfl rfl (qaR rfl rfl).2 ?_
   exact lg hF (g9_2)
  have g9_0 : F [] (P2 [E11, (8, hI a3.2.1), E13] [O12]) := by
   refine l_take (i := 0) hF rfl rfl rfl (qaR rfl rfl).2 ?_
   exact lg hF (g9_1)
  exact g9_0
 obtain ⟨hc, h⟩ := cF hc h
 refine AW.exit ?_
 exact to_L ⟨(a3.2.2, a3.1), (), h, rfl⟩
end Go.AW

namespace Go.AW
open Go
structure Lq {α : Type} (x y : Option α) : Prop where
 ap : ∀ r, x = some r → y = some r
theorem Lq.refl {α : Type} (x : Option α) : Lq x x := ⟨fun _ h => h⟩
theorem Lq.none {α : Type} {y : Option α} : Lq Option.none y := ⟨fun _ h => by cases h⟩
theorem Lq.bind {α β : Type} {x y : Option α} {f g : α → Option β} (h : Lq x y) (hk : ∀ a, Lq (f a) (g a)) : Lq (x.bind f) (y.bind g) := by
 refine ⟨fun r hr => ?_⟩
 obtain ⟨a, ha, hf⟩ := bS hr
 rw [h.ap a ha]
 exact (hk a).ap r hf
theorem Lq.ite {α : Type} {p : Prop} [Decidable p] {a a' b b' : Option α} (h1 : Lq a a') (h2 : Lq b b') : Lq (if p then a else b) (if p then a' else b') := by
 refine ⟨fun r hr => ?_⟩
 by_cases hp : p
 ·rw [if_pos hp] at hr ⊢; exact h1.ap r hr
 ·rw [if_neg hp] at hr ⊢; exact h2.ap r hr
theorem Lq.jp {S R : Type} {M M' : S → Option R} {B B' : (S → Option R) → Option R} (hM : ∀ a, Lq (M a) (M' a)) (hB : ∀ k k' : S → Option R, (∀ a, Lq (k a) (k' a)) → Lq (B k) (B' k')) : Lq (Go.AW.jp M B) (Go.AW.jp M' B') := hB _ _ hM
theorem iter_mono {S X : Type} {f g : S → Option (Stp S X)} (h : ∀ s, Lq (f s) (g s)) : ∀ (n : Nat) (s : S) (r : X), iter f n s = some r → iter g n s = some r
 | 0, _, _, hr => hr
 | n + 1, s, r, hr => by
  simp only [iter] at hr ⊢
  split at hr
  ·rename_i s' hs
   rw [(h s).ap _ hs]
   exact iter_mono h n s' r hr
  ·rename_i x hs
   rw [(h s).ap _ hs]
   exact hr
  ·cases hr
def loopE {S X : Type} (body : S → Option (Stp S X)) (s : S) : Option X := iter body 1000000 s
theorem Lq.loop {S X : Type} {f g : S → Option (Stp S X)} {s : S} (h : ∀ s, Lq (f s) (g s)) : Lq (loopE f s) (loopW g s) := ⟨fun r hr => loopW_of (iter_mono h _ s r hr)⟩
theorem Lq.lpO {V R Y : Type} {x y : Option (Ou V R)} {M M' : V → Option Y} {Rt Rt' : R → Option Y} (h : Lq x y) (hM : ∀ v, Lq (M v) (M' v)) (hR : ∀ r, Lq (Rt r) (Rt' r)) : Lq (Go.AW.lpO x M Rt) (Go.AW.lpO y M' Rt') := by
 refine ⟨fun r hr => ?_⟩
 unfold Go.AW.lpO at hr ⊢
 split at hr
 ·rename_i v
  rw [h.ap _ rfl]; exact (hM v).ap r hr
 ·rename_i v
  rw [h.ap _ rfl]; exact (hR v).ap r hr
 ·cases hr
theorem forL_mono {S α X : Type} {f g : S → α → Option (Stp S X)} (h : ∀ s a, Lq (f s a) (g s a)) : ∀ (l : List α) (s : S) (r : Ou S X), forL f l s = some r → forL g l s = some r
 | [], _, _, hr => hr
 | x :: l, s, r, hr => by
  simp only [forL] at hr ⊢
  split at hr
  ·rename_i s' hs
   rw [(h s x).ap _ hs]
   exact forL_mono h l s' r hr
  ·rename_i y hs
   rw [(h s x).ap _ hs]
   exact hr
  ·cases hr
theorem Lq.forL {S α X : Type} {f g : S → α → Option (Stp S X)} {l : List α} {s : S} (h : ∀ s a, Lq (f s a) (g s a)) : Lq (Go.AW.forL f l s) (Go.AW.forL g l s) := ⟨forL_mono h l s⟩
def c_integer_trim (p0 : List (Int)) : Option ((List (Int))) :=
 (loopE (S := (List Int)) (X := (List Int)) (fun a1 =>
   jp (fun (a5 : Bool) =>
    if a5 = true then
     if 0 ≤ (0 : Int) ∧ (0 : Int) ≤ IntKind.wrap .i64 (((a1).length : Int) - 1) ∧ IntKind.wrap .i64 (((a1).length : Int) - 1) ≤ (a1.length : Int) then
      some (Stp.next ((a1.take (IntKind.wrap .i64 (((a1).length : Int) - 1)).toNat).drop (0 : Int).toNat))
     else none
    else
     some (Stp.exit a1))
    fun k7 =>
    if 0 < ((a1).length : Int) then
     (idx a1 (IntKind.wrap .i64 (((a1).length : Int) - 1))).bind fun x9 =>
     k7 (decide (x9 = 0))
    else
     k7 false) p0).bind fun a12 =>
 some a12
set_option maxHeartbeats 1600000 in
theorem le_integer_trim {p0 : List (Int)} : Lq (c_integer_trim p0) (m_integer_trim p0) := by
 unfold c_integer_trim m_integer_trim
 repeat' with_reducible first | intro _ | exact Lq.refl _ | exact Lq.none | apply Lq.ite | apply Lq.bind | apply Lq.jp | apply Lq.loop | apply Lq.lpO | apply Lq.forL | apply_assumption
def c_integer_number (p0 : Bool) (p1 : List (Int)) : Option (TNegMag) :=
 (c_integer_trim p1).bind fun x2 =>
 if ((x2).length : Int) = 0 then
  some (false, ([] : List UInt8))
 else
  if 0 ≤ (0 : Int) ∧ (0 : Int) ≤ IntKind.wrap .i64 (4 * ((x2).length : Int)) ∧ (IntKind.wrap .i64 (4 * ((x2).length : Int)) : Int) * 1 ≤ 281474976710656 then
   (loopE (S := Int × (List Int)) (X := (List Int)) (fun a6 =>
     if 0 ≤ a6.1 then
      (loopE (S := Int × (List Int)) (X := (List Int)) (fun a10 =>
        if 0 ≤ a10.1 then
         jp (fun (a14 : (List Int)) =>
          some (Stp.next (IntKind.wrap .i64 (a10.1 - 1), a14)))
          fun k16 =>
          (idx x2 a6.1).bind fun x17 =>
          if 0 ≤ (IntKind.wrap .i64 (8 * a10.1)) then
           jp (fun (a20 : Bool) =>
            if a20 = true then
             if fits 1 ((a10.2 : List Int).length + ([IntKind.wrap .u8 (Int.fdiv x17 (2 ^ (min ((IntKind.wrap .i64 (8 * a10.1))).toNat (IntKind.bits .u32))))]).length) then
              k16 (a10.2 ++ [IntKind.wrap .u8 (Int.fdiv x17 (2 ^ (min ((IntKind.wrap .i64 (8 * a10.1))).toNat (IntKind.bits .u32))))])
             else none
            else
             k16 a10.2)
            fun k22 =>
            if (IntKind.wrap .u8 (Int.fdiv x17 (2 ^ (min ((IntKind.wrap .i64 (8 * a10.1))).toNat (IntKind.bits .u32))))) ≠ 0 then
             k22 true
            else
             k22 (decide (0 < (((a10.2).length : Nat) : Int)))
          else none
        else
         some (Stp.exit a10.2)) (3, a6.2)).bind fun a26 =>
      some (Stp.next (IntKind.wrap .i64 (a6.1 - 1), a26))
     else
      some (Stp.exit a6.2)) (IntKind.wrap .i64 (((x2).length : Int) - 1), List.replicate (0 : Int).toNat (0 : Int))).bind fun a28 =>
   some (p0, a28.map fun n => UInt8.ofNat n.toNat)
  else none
set_option maxHeartbeats 1600000 in
theorem le_integer_number {p0 : Bool} {p1 : List (Int)} : Lq (c_integer_number p0 p1) (m_integer_number p0 p1) := by
 unfold c_integer_number m_integer_number
 repeat' with_reducible first | intro _ | exact Lq.refl _ | exact Lq.none | apply Lq.ite | apply Lq.bind | apply Lq.jp | apply Lq.loop | apply Lq.lpO | apply Lq.forL | apply_assumption | apply le_integer_trim
def c_integer_short (p0 : List (Int)) (p1 : Int) : Option ((List (Int)) × Int) :=
 if 0 ≤ (((p0).length : Int) : Int) ∧ (((p0).length : Int) : Int) ≤ ((p0).length : Int) ∧ (((p0).length : Int) : Int) * 4 ≤ 281474976710656 then
  (loopE (S := Int × Int × (List Int)) (X := (List Int) × Int) (fun a3 =>
      if 0 ≤ a3.2.1 then
       (idx p0 a3.2.1).bind fun x7 =>
       if (IntKind.wrap .u64 p1) ≠ 0 then
        if (IntKind.wrap .u64 p1) ≠ 0 then
         (idx a3.2.2 a3.2.1).bind fun x91101 =>
         some (Stp.next (Int.tmod (IntKind.wrap .u64 (BitVec.ofInt (IntKind.bits .u64) (IntKind.wrap .u64 (a3.1 * 2 ^ (min (32 : Int).toNat (IntKind.bits .u64)))) ||| BitVec.ofInt (IntKind.bits .u64) (IntKind.wrap .u64 x7)).toNat) (IntKind.wrap .u64 p1), IntKind.wrap .i64 (a3.2.1 - 1), (a3.2.2).set (a3.2.1).toNat (IntKind.wrap .u32 (IntKind.wrap .u64 (Int.tdiv (IntKind.wrap .u64 (BitVec.ofInt (IntKind.bits .u64) (IntKind.wrap .u64 (a3.1 * 2 ^ (min (32 : Int).toNat (IntKind.bits .u64)))) ||| BitVec.ofInt (IntKind.bits .u64) (IntKind.wrap .u64 x7)).toNat) (IntKind.wrap .u64 p1))))))
        else none
       else none
      else
       some (Stp.exit (a3.2.2, a3.1))) (0, IntKind.wrap .i64 (((p0).length : Int) - 1), List.replicate (((p0).length : Int)).toNat (0 : Int))).bind fun a10 =>
  (c_integer_trim a10.1).bind fun x12 =>
  some (x12, IntKind.wrap .u32 a10.2)
 else none
set_option maxHeartbeats 1600000 in
theorem le_integer_short {p0 : List (Int)} {p1 : Int} : Lq (c_integer_short p0 p1) (m_integer_short p0 p1) := by
 unfold c_integer_short m_integer_short
 repeat' with_reducible first | intro _ | exact Lq.refl _ | exact Lq.none | apply Lq.ite | apply Lq.bind | apply Lq.jp | apply Lq.loop | apply Lq.lpO | apply Lq.forL | apply_assumption | apply le_integer_trim
end Go.AW
namespace Go.AW
open Go Go.Proofs
def L16 : List Nat := [1, 2, 3, 4, 5, 6, 7, 8, 9, 10, 11, 12, 13, 14, 15, 16]
def u32z (n : Nat) : List Int := if n = 0 then [] else [(n : Int)]
def u8z (n : Nat) : List UInt8 := if n = 0 then [] else [UInt8.ofNat n]
abbrev hvN (l : List Int) : HV := slE (encM (HV.int .u32)) l
abbrev hvI (a : TNegMag) : HV := HV.agg [HV.bool a.1, HV.str a.2]
abbrev hvR (a : TNumDen) : HV := HV.agg [HV.bool a.1.1, HV.str a.1.2, HV.bool a.2.1, HV.str a.2.2]
def shF (a b : Nat) : FuncId × List HV × HV := (200, [hvN [(a : Int)], HV.int .u32 b], HV.tup [hvN (u32z (a / b)), HV.int .u32 (a % b : Nat)])
def numA : List (Bool × List Int × Nat) := (true, [], 0) :: (0 :: L16).flatMap fun n => [(false, u32z n, n), (false, [(n : Int), 0], n)]
def numR (x : Bool × List Int × Nat) : TNegMag := (x.1 && !(x.2.2 == 0), u8z x.2.2)
def numF (x : Bool × List Int × Nat) : FuncId × List HV × HV := (71, [HV.bool x.1, hvN x.2.1], hvI (numR x))
def factsG : List (FuncId × List HV × HV) := numA.map numF
def factsP : List (FuncId × List HV × HV) := (L16.flatMap fun a => [shF a 1, shF a 2]) ++ (L16.flatMap fun b => [shF 1 b, shF 2 b])
theorem short_c : ∀ a ∈ L16, ∀ b ∈ L16, c_integer_short [(a : Int)] (b : Int) = some (u32z (a / b), ((a % b : Nat) : Int)) := by decide +kernel
theorem num_c : ∀ x ∈ numA, c_integer_number x.1 x.2.1 = some (numR x) := by decide +kernel
theorem factsG_ok : ∀ e ∈ factsG, Fresh Tryz.prog e.1 e.2.1 e.2.2 := by
 intro e he
 simp only [factsG, List.mem_map] at he
 obtain ⟨x, hx, rfl⟩ := he
 exact (w_integer_number (le_integer_number.ap _ (num_c x hx))).fresh ⟨trivial, trivial, trivial⟩ rfl
theorem factsP_ok : ∀ e ∈ factsP, Pure Tryz.prog e.1 e.2.1 (· = e.2.2) := by
 intro e he
 have key : ∀ a ∈ L16, ∀ b ∈ L16, Pure Tryz.prog (shF a b).1 (shF a b).2.1 (· = (shF a b).2.2) := fun a ha b hb => w_integer_short (le_integer_short.ap _ (short_c a ha b hb))
 have h1 : 1 ∈ L16 := by decide
 have h2 : 2 ∈ L16 := by decide
 simp only [factsP, List.mem_append, List.mem_flatMap, List.mem_cons, List.not_mem_nil, or_false] at he
 rcases he with ⟨a, ha, rfl | rfl⟩ | ⟨b, hb, rfl | rfl⟩
 ·exact key a ha 1 h1
 ·exact key a ha 2 h2
 ·exact key 1 h1 b hb
 ·exact key 2 h2 b hb
noncomputable abbrev comesR (f : FuncId) (args : List HV) (q : HV) : Bool := comesP (tabsE Tryz.prog factsG factsP) 2000 f args q
def ratB (p : Nat) (l : List Nat) : Prop := (l.all fun q => comesR 20 [HV.int .i64 (p : Nat), HV.int .i64 (q : Nat)] (HV.tup [hvR (ratT p q), HV.int .i64 0])) = true
theorem ratio0 : ratB 0 L16 := by unfold ratB; kernel_rfl
theorem ratio1a : ratB 1 [1, 2, 3, 4, 5, 6, 7, 8] := by unfold ratB; kernel_rfl
theorem ratio1b : ratB 1 [9, 10, 11, 12, 13, 14, 15, 16] := by unfold ratB; kernel_rfl
theorem ratio2a : ratB 2 [1, 2, 3, 4, 5, 6, 7, 8] := by unfold ratB; kernel_rfl
theorem ratio2b : ratB 2 [9, 10, 11, 12, 13, 14, 15, 16] := by unfold ratB; kernel_rfl
theorem ratB_mem {p : Nat} {l : List Nat} (h : ratB p l) {q : Nat} (hq : q ∈ l) : Pure Tryz.prog 20 [HV.int .i64 (p : Nat), HV.int .i64 (q : Nat)] (· = HV.tup [hvR (ratT p q), HV.int .i64 0]) :=
 Pure.of_comes (tabsT_ok factsG_ok factsP_ok) (List.all_eq_true.1 h q hq)
theorem w_rational_Ratio {p0 p1 : Int} {r : TNumDen × Int} (h : m_rational_Ratio p0 p1 = some r) : Pure Tryz.prog 20 [HV.int .i64 p0, HV.int .i64 p1] (· = HV.tup [HV.agg [HV.bool r.1.1.1, HV.str r.1.1.2, HV.bool r.1.2.1, HV.str r.1.2.2], HV.int .i64 r.2]) := by
 unfold m_rational_Ratio at h
 split at h
 ·rename_i hc
  cases h
  obtain ⟨p, rfl⟩ := Int.eq_ofNat_of_zero_le hc.1
  obtain ⟨q, rfl⟩ := Int.eq_ofNat_of_zero_le (show 0 ≤ p1 by omega)
  have hp : p = 0 ∨ p = 1 ∨ p = 2 := by omega
  have hq : q ∈ [1, 2, 3, 4, 5, 6, 7, 8] ∨ q ∈ [9, 10, 11, 12, 13, 14, 15, 16] := by simp only [List.mem_cons, List.not_mem_nil, or_false]; omega
  have hq' : q ∈ L16 := by simp only [L16, List.mem_cons, List.not_mem_nil, or_false]; omega
  rcases hp with rfl | rfl | rfl
  ·exact ratB_mem ratio0 hq'
  ·rcases hq with hq | hq
   ·exact ratB_mem ratio1a hq
   ·exact ratB_mem ratio1b hq
  ·rcases hq with hq | hq
   ·exact ratB_mem ratio2a hq
   ·exact ratB_mem ratio2b hq
 ·cases h
set_option maxHeartbeats 1600000
set_option maxRecDepth 100000
theorem w_merging_uneven_1 {p0 : List UInt8} {c0 : List (List UInt8)} {r : Bool} (h : m_merging_uneven_1 p0 c0 = some r) : Pure Tryz.prog 166 [.str p0, .fptr [slE eStr c0] 0] (· = HV.bool r) := by
 unfold m_merging_uneven_1 at h
 refine Pure.of_body Tryz.func166 rfl rfl (lb rfl) fun hf => ?_
 unfold Tryz.f166
 dsimp only [qaG, Nat.reduceAdd]
 refine AW.rgs rfl fun K hK => mv rfl rfl ?_
 refine bf hK ⟨[(0, .str p0), (1, .fptr [slE eStr c0] 0)], []⟩ ?_
 refine AW.rgs rfl fun K hK => mv rfl rfl (bv rfl (v_lenS rfl rfl ty9 rfl) (bv rfl (qab ty22 rfl (qam rfl rfl)) ?_))
 obtain ⟨x1, h2, h⟩ := bS h
 refine bv rfl (qaW ty22 es22 rfl rfl (qaO h2)) (bv rfl (qab ty9 rfl (qaZ eStr h2 (o := 0) rfl rfl)) (bv rfl (v_lenS rfl rfl ty9 rfl) (bv rfl (qaf rfl rfl b_neq) (mv rfl rfl ?_))))
 refine bf hK ⟨[(3, .bool (decide (((p0).length : Int) ≠ ((x1).length : Int))))], []⟩ ?_
 obtain rfl := oi h
 exact AW.ret (qac (.inr rfl) (resT rfl rfl) rfl trivial)
theorem w_merging_uneven {p0 : List (List UInt8)} {r : Bool} (h : m_merging_uneven p0 = some r) : Pure Tryz.prog 113 [slE eStr p0] (· = HV.bool r) := by
 unfold m_merging_uneven at h
 refine Pure.of_body Tryz.func113 rfl rfl (lb rfl) fun hf => ?_
 unfold Tryz.f113
 dsimp only [qaG, Nat.reduceAdd]
 refine AW.rgs rfl fun K hK => b_op rfl (o_box rfl rfl rfl ?_)
 refine mv rfl rfl ?_
 refine bf hK ⟨[(1, .fptr [slE eStr p0] 0)], []⟩ ?_
 refine AW.rgs rfl fun K hK => bv rfl (qab ty22 rfl (qam rfl rfl)) (bv rfl (v_func rfl rfl) ?_)
 obtain ⟨x1, h2, h⟩ := bS h
 refine b_op rfl (qay rfl rfl rfl rfl (ACallD.pure0 (qaE h2 (fun _ _ h => w_merging_uneven_1 h))) ?_)
 refine mv rfl rfl ?_
 refine bf hK ⟨[(2, .bool x1)], []⟩ ?_
 obtain rfl := oi h
 exact AW.ret (qac (.inr rfl) (resT rfl rfl) rfl trivial)
theorem w_merging_letters_1 {p0 : List UInt8} {r : Bool} (h : m_merging_letters_1 p0 = some r) : Pure Tryz.prog 167 [.str p0] (· = HV.bool r) := by
 unfold m_merging_letters_1 at h
 refine Pure.of_body Tryz.func167 rfl rfl (lb rfl) fun hf => ?_
 unfold Tryz.f167
 dsimp only [qaG, Nat.reduceAdd]
 refine AW.rgs rfl fun K hK => mv rfl rfl ?_
 refine bf hK ⟨[(0, .str p0)], []⟩ ?_
 refine AW.rgs rfl fun K hK => mv rfl rfl ?_
 obtain ⟨x1, h2, h⟩ := bS h
 refine b_op rfl (qay rfl rfl rfl rfl (ACallD.pure0 (w_strings_Count h2)) ?_)
 refine mv rfl rfl ?_
 obtain ⟨x3, h4, h⟩ := bS h
 refine b_op rfl (qay rfl rfl rfl rfl (ACallD.pure0 (w_strings_Count h4)) ?_)
 refine bv rfl (qaf rfl rfl b_add) (mv rfl rfl (bv rfl (v_lenS rfl rfl ty9 rfl) (bv rfl (qaf rfl rfl b_neq) (mv rfl rfl ?_))))
 refine bf hK ⟨[(2, .bool (decide ((IntKind.wrap .i64 (x1 + x3)) ≠ ((p0).length : Int))))], []⟩ ?_
 obtain rfl := oi h
 exact AW.ret (qac (.inr rfl) (resT rfl rfl) rfl trivial)
theorem w_merging_letters {p0 : List (List UInt8)} {r : Bool} (h : m_merging_letters p0 = some r) : Pure Tryz.prog 114 [slE eStr p0] (· = HV.bool r) := by
 unfold m_merging_letters at h
 refine Pure.of_body Tryz.func114 rfl rfl (lb rfl) fun hf => ?_
 unfold Tryz.f114
 dsimp only [qaG, Nat.reduceAdd]
 refine AW.rgs rfl fun K hK => mv rfl rfl ?_
 refine bf hK ⟨[(0, slE eStr p0)], []⟩ ?_
 refine AW.rgs rfl fun K hK => mv rfl rfl ?_
 obtain ⟨x1, h2, h⟩ := bS h
 refine b_op rfl (qay rfl rfl rfl rfl (ACallD.pure0 (qaE h2 (fun _ _ h => w_merging_letters_1 h))) ?_)
 refine mv rfl rfl ?_
 refine bf hK ⟨[(2, .bool x1)], []⟩ ?_
 obtain rfl := oi h
 exact AW.ret (qac (.inr rfl) (resT rfl rfl) rfl trivial)
theorem w_merging_repeats {p0 : List (List UInt8)} {r : Bool} (h : m_merging_repeats p0 = some r) : Pure Tryz.prog 115 [slE eStr p0] (· = HV.bool r) := by
 unfold m_merging_repeats at h
 refine Pure.of_body Tryz.func115 rfl rfl (lb rfl) fun hf => ?_
 unfold Tryz.f115
 dsimp only [qaG, Nat.reduceAdd]
 refine AW.rgs rfl fun K hK => mv rfl rfl ?_
 refine bf hK ⟨[(0, slE eStr p0)], []⟩ ?_
 refine AW.rgs rfl fun K hK => b_op rfl (o_makeMap (fid := 115) HV.bool 115006 rfl rfl (fun v1 => ?_))
 refine mv rfl rfl ?_
 let O1 : Nat × Nat × AObj := (115006, v1, .map (entE HV.bool ([] : List (List UInt8 × Bool))))
 refine bf hK ⟨[(0, slE eStr p0), (3, .mp 115006 v1)], [O1]⟩ ?_
 refine AW.seq ?_
 refine AW.rgs rfl fun K hK => mv rfl rfl (bv rfl (qaI rfl rfl ty22 rfl) (mv rfl rfl ?_))
 let E2 : Nat × HV := (8, hI ((p0).length : Int))
 let P1 : ASf := fun t H => ⟨(3, .mp 115006 v1) :: (7, slE eStr p0) :: E2 :: t, H⟩
 refine bf hK (P1 [(9, hI 0)] [O1]) ?_
 refine AW.lpR h (by first | exact qa5 | exact up_to) (S := Int × (List (List UInt8 × Bool))) (V := Unit) (fun a v => (P1 [(9, hI a.1)] [(115006, v1, .map (entE HV.bool a.2))])) ?_ (X := Unit) (W := Unit) (fun a v => ⟨[], []⟩) (fun a8 w9 h => ?_) (fun a2 w3 st4 h hr5=> ?_)
 ·exact to_L ⟨(), rfl⟩
 ·refine AW.rgs rfl fun K hK => mv rfl rfl ?_
  refine bf hK ⟨[(2, .bool false)], []⟩ ?_
  obtain rfl := oi h
  exact AW.ret (qac (.inr rfl) (resT rfl rfl) rfl trivial)
 refine AW.rgs rfl fun K hK => bv rfl (qaf rfl rfl b_lss) ?_
 let O3 : Nat × Nat × AObj := (115006, v1, .map (entE HV.bool a2.2))
 refine bf hK (P1 [(9, hI a2.1), (10, .bool (decide (a2.1 < ((p0).length : Int))))] [O3]) ?_
 refine AW.cseq rfl (fun hc => ?_) (fun hc => ?_)
 ·obtain ⟨hc, h⟩ := cT hc h
  refine AW.skip ?_
  refine AW.seq (AW.block ?_)
  refine AW.rgs rfl fun K hK => ?_
  obtain ⟨x6, h7, h⟩ := bS h
  refine bv rfl (qaW ty22 es22 rfl rfl (qaO h7)) (bv rfl (qab ty9 rfl (qaZ eStr h7 (o := 0) rfl rfl)) (mv rfl rfl ?_))
  let P2 : ASf := fun t H => ⟨(3, .mp 115006 v1) :: (5, .str x6) :: (7, slE eStr p0) :: E2 :: (9, hI a2.1) :: t, O3 :: H⟩
  refine bf hK (P2 [] []) ?_
  refine AW.seq ?_
  refine AW.rgs rfl fun K hK => mv rfl rfl (mv rfl rfl ?_)
  refine b_op rfl (o_look (fid := 115) HV.bool (es := a2.2) (k := x6) (v := (mlook x6 a2.2).getD false) rfl ty174 ty9 ty4 rfl rfl rfl rfl (look_dflt rfl) ?_)
  refine bf hK (P2 [(15, .bool ((mlook x6 a2.2).getD false))] []) ?_
  refine AW.cond rfl (fun hc => ?_) (fun hc => ?_)
  ·have h := ifT hc h
   refine AW.rgs rfl fun K hK => mv rfl rfl ?_
   refine bf hK ⟨[(2, .bool true)], []⟩ ?_
   have h := hr5 _ h
   obtain rfl := oi h
   exact AW.ret (qac (.inr rfl) (resT rfl rfl) rfl trivial)
  have h := ifF (bF' hc) h
  refine AW.skip ?_
  refine AW.rg rfl fun K hK => mv rfl rfl (mv rfl rfl ?_)
  refine b_op rfl (o_mapSet HV.bool (es := a2.2) (k := x6) (v := true) (.inl rfl) ty174 ty9 rfl rfl rfl rfl trivial ?_)
  refine bf hK (P1 [(9, hI a2.1)] [(115006, v1, .map (entE HV.bool (mputN x6 true a2.2)))]) ?_
  refine AW.rg rfl fun K hK => bv rfl (qaf rfl rfl b_add) (mv rfl rfl ?_)
  refine qah (hK _ ?_)
  exact to_L ⟨(IntKind.wrap .i64 (a2.1 + 1), mputN x6 true a2.2), (), h, rfl⟩
 obtain ⟨hc, h⟩ := cF hc h
 refine AW.exit ?_
 exact to_L ⟨(), (), h, rfl⟩
theorem w_merging_form {p0 : qaq} {r : Int} (h : m_merging_form p0 = some r) : Pure Tryz.prog 64 [jA p0] (· = hI r) := by
 unfold m_merging_form at h
 refine Pure.of_body Tryz.func64 rfl rfl (lb rfl) fun hf => ?_
 unfold Tryz.f64
 dsimp only [qaG, Nat.reduceAdd]
 refine AW.rgs rfl fun K hK => b_op rfl (o_box rfl rfl rfl ?_)
 refine mv rfl rfl ?_
 refine bf hK ⟨[(1, jF p0)], []⟩ ?_
 refine AW.seq (AW.block ?_)
 refine AW.seqJ h (S := Bool) (V := Unit) (fun a v => ⟨[(1, jF p0), (3, .bool a)], []⟩) (fun a1 w2 h => ?_) (fun k3 h => ?_)
 ·refine AW.cond rfl (fun hc => ?_) (fun hc => ?_)
  ·have h := ifT hc h
   refine AW.rgs rfl fun K hK => mv rfl rfl ?_
   refine bf hK ⟨[(2, hI 5)], []⟩ ?_
   obtain rfl := oi h
   exact AW.ret (qac (.inr rfl) (resT rfl rfl) rfl trivial)
  have h := ifF (bF' hc) h
  refine AW.seqJ h (S := Bool) (V := Unit) (fun a v => ⟨[(1, jF p0), (14, .bool a)], []⟩) (fun a4 w5 h => ?_) (fun k6 h => ?_)
  ·refine AW.cond rfl (fun hc => ?_) (fun hc => ?_)
   ·have h := ifT hc h
    refine AW.rgs rfl fun K hK => mv rfl rfl ?_
    refine bf hK ⟨[(2, hI 4)], []⟩ ?_
    obtain rfl := oi h
    exact AW.ret (qac (.inr rfl) (resT rfl rfl) rfl trivial)
   have h := ifF (bF' hc) h
   refine AW.seqJ h (S := Bool) (V := Unit) (fun a v => ⟨[(1, jF p0), (25, .bool a)], []⟩) (fun a7 w8 h => ?_) (fun k9 h => ?_)
   ·refine AW.cond rfl (fun hc => ?_) (fun hc => ?_)
    ·have h := ifT hc h
     refine AW.rgs rfl fun K hK => mv rfl rfl ?_
     refine bf hK ⟨[(2, hI 11)], []⟩ ?_
     obtain rfl := oi h
     exact AW.ret (qac (.inr rfl) (resT rfl rfl) rfl trivial)
    have h := ifF (bF' hc) h
    refine AW.seqJ h (S := Bool) (V := Unit) (fun a v => ⟨[(1, jF p0), (34, .bool a)], []⟩) (fun a10 w11 h => ?_) (fun k12 h => ?_)
    ·refine AW.cond rfl (fun hc => ?_) (fun hc => ?_)
     ·have h := ifT hc h
      refine AW.rgs rfl fun K hK => mv rfl rfl ?_
      refine bf hK ⟨[(2, hI 2)], []⟩ ?_
      obtain rfl := oi h
      exact AW.ret (qac (.inr rfl) (resT rfl rfl) rfl trivial)
     have h := ifF (bF' hc) h
     refine AW.seqJ h (S := Bool) (V := Unit) (fun a v => ⟨[(1, jF p0), (57, .bool a)], []⟩) (fun a13 w14 h => ?_) (fun k15 h => ?_)
     ·refine AW.cond rfl (fun hc => ?_) (fun hc => ?_)
      ·have h := ifT hc h
       refine AW.rgs rfl fun K hK => mv rfl rfl ?_
       refine bf hK ⟨[(2, hI 13)], []⟩ ?_
       obtain rfl := oi h
       exact AW.ret (qac (.inr rfl) (resT rfl rfl) rfl trivial)
      have h := ifF (bF' hc) h
      refine AW.seqJ h (S := Bool) (V := Unit) (fun a v => ⟨[(66, .bool a)], []⟩) (fun a16 w17 h => ?_) (fun k18 h => ?_)
      ·refine AW.cond rfl (fun hc => ?_) (fun hc => ?_)
       ·have h := ifT hc h
        refine AW.rgs rfl fun K hK => mv rfl rfl ?_
        refine bf hK ⟨[(2, hI 7)], []⟩ ?_
        obtain rfl := oi h
        exact AW.ret (qac (.inr rfl) (resT rfl rfl) rfl trivial)
       have h := ifF (bF' hc) h
       refine AW.skip ?_
       refine AW.rgs rfl fun K hK => mv rfl rfl ?_
       refine bf hK ⟨[(2, hI 0)], []⟩ ?_
       obtain rfl := oi h
       exact AW.ret (qac (.inr rfl) (resT rfl rfl) rfl trivial)
      refine AW.rg rfl fun K hK => bv rfl (qad fo24_0 rfl) (bv rfl (qab ty22 rfl (qam rfl rfl)) ?_)
      obtain ⟨x19, h20, h⟩ := bS h
      refine b_op rfl (qay rfl rfl rfl rfl (ACallD.pure0 (w_merging_repeats h20)) ?_)
      refine mv rfl rfl ?_
      by_cases hg23 : x19 = true
      ·have h := ifT hg23 h
       refine b_F rfl rfl rfl rfl rfl hg23 ?_
       iterate 2 refine b_F rfl rfl rfl rfl rfl rfl ?_
       refine bv rfl (qak rfl rfl rfl) (mv rfl rfl ?_)
       refine qah (hK _ ?_)
       exact to_L ⟨true, (), h, rfl⟩
      have h := ifF hg23 h
      refine b_T rfl rfl rfl rfl (bF hg23) (qai rfl (qad fo24_1 rfl) ?_)
      refine b_T rfl rfl rfl rfl rfl (qai rfl (qab ty22 rfl (qam rfl rfl)) ?_)
      obtain ⟨x21, h22, h⟩ := bS h
      refine b_T rfl rfl rfl rfl rfl (qay rfl rfl rfl rfl (ACallD.pure0 (w_merging_repeats h22)) ?_)
      refine bv rfl (qan rfl rfl rfl) (mv rfl rfl ?_)
      refine qah (hK _ ?_)
      exact to_L ⟨x21, (), h, rfl⟩
     refine AW.rg rfl fun K hK => bv rfl (qad fo24_0 rfl) (bv rfl (qab ty22 rfl (qam rfl rfl)) ?_)
     obtain ⟨x24, h25, h⟩ := bS h
     refine b_op rfl (qay rfl rfl rfl rfl (ACallD.pure0 (w_merging_letters h25)) ?_)
     refine mv rfl rfl ?_
     by_cases hg28 : x24 = true
     ·have h := ifT hg28 h
      refine b_F rfl rfl rfl rfl rfl hg28 ?_
      iterate 2 refine b_F rfl rfl rfl rfl rfl rfl ?_
      refine bv rfl (qak rfl rfl rfl) (mv rfl rfl ?_)
      refine qah (hK _ ?_)
      exact to_L ⟨true, (), h, rfl⟩
     have h := ifF hg28 h
     refine b_T rfl rfl rfl rfl (bF hg28) (qai rfl (qad fo24_1 rfl) ?_)
     refine b_T rfl rfl rfl rfl rfl (qai rfl (qab ty22 rfl (qam rfl rfl)) ?_)
     obtain ⟨x26, h27, h⟩ := bS h
     refine b_T rfl rfl rfl rfl rfl (qay rfl rfl rfl rfl (ACallD.pure0 (w_merging_letters h27)) ?_)
     refine bv rfl (qan rfl rfl rfl) (mv rfl rfl ?_)
     refine qah (hK _ ?_)
     exact to_L ⟨x26, (), h, rfl⟩
    refine AW.rg rfl fun K hK => bv rfl (qad fo24_0 rfl) (bv rfl (qab ty22 rfl (qam rfl rfl)) ?_)
    obtain ⟨x29, h30, h⟩ := bS h
    refine bv rfl (qaW ty22 es22 rfl rfl (qaO h30)) (bv rfl (qab ty9 rfl (qaZ eStr h30 (o := 0) rfl rfl)) (bv rfl (v_lenS rfl rfl ty9 rfl) (bv rfl (qaf rfl rfl b_lss) (mv rfl rfl ?_))))
    by_cases hg36 : ((x29).length : Int) < 1
    ·have h := ifT hg36 h
     refine b_F rfl rfl rfl rfl rfl (decide_eq_true hg36) ?_
     iterate 5 refine b_F rfl rfl rfl rfl rfl rfl ?_
     refine bv rfl (qak rfl rfl rfl) (mv rfl rfl ?_)
     iterate 6 refine b_F rfl rfl rfl rfl rfl rfl ?_
     refine bv rfl (qak rfl rfl rfl) (mv rfl rfl ?_)
     refine qah (hK _ ?_)
     exact to_L ⟨true, (), h, rfl⟩
    have h := ifF hg36 h
    refine b_T rfl rfl rfl rfl (decide_eq_false hg36) (qai rfl (qad fo24_0 rfl) ?_)
    refine b_T rfl rfl rfl rfl rfl (qai rfl (qab ty22 rfl (qam rfl rfl)) ?_)
    obtain ⟨x31, h32, h⟩ := bS h
    refine b_T rfl rfl rfl rfl rfl (qai rfl (qaW ty22 es22 rfl rfl (qaO h32)) ?_)
    refine b_T rfl rfl rfl rfl rfl (qai rfl (qab ty9 rfl (qaZ eStr h32 (o := 0) rfl rfl)) ?_)
    refine b_T rfl rfl rfl rfl rfl (qai rfl (v_lenS rfl rfl ty9 rfl) ?_)
    refine b_T rfl rfl rfl rfl rfl (qai rfl (qaf rfl rfl b_gtr) ?_)
    refine bv rfl (qan rfl rfl rfl) (mv rfl rfl ?_)
    by_cases hg35 : 16 < ((x31).length : Int)
    ·have h := ifT hg35 h
     refine b_F rfl rfl rfl rfl rfl (decide_eq_true hg35) ?_
     iterate 5 refine b_F rfl rfl rfl rfl rfl rfl ?_
     refine bv rfl (qak rfl rfl rfl) (mv rfl rfl ?_)
     refine qah (hK _ ?_)
     exact to_L ⟨true, (), h, rfl⟩
    have h := ifF hg35 h
    refine b_T rfl rfl rfl rfl (decide_eq_false hg35) (qai rfl (qad fo24_1 rfl) ?_)
    refine b_T rfl rfl rfl rfl rfl (qai rfl (qab ty22 rfl (qam rfl rfl)) ?_)
    obtain ⟨x33, h34, h⟩ := bS h
    refine b_T rfl rfl rfl rfl rfl (qai rfl (qaW ty22 es22 rfl rfl (qaO h34)) ?_)
    refine b_T rfl rfl rfl rfl rfl (qai rfl (qab ty9 rfl (qaZ eStr h34 (o := 0) rfl rfl)) ?_)
    refine b_T rfl rfl rfl rfl rfl (qai rfl (v_lenS rfl rfl ty9 rfl) ?_)
    refine b_T rfl rfl rfl rfl rfl (qai rfl (qaf rfl rfl b_gtr) ?_)
    refine bv rfl (qan rfl rfl rfl) (mv rfl rfl ?_)
    refine qah (hK _ ?_)
    exact to_L ⟨decide (16 < ((x33).length : Int)), (), h, rfl⟩
   refine AW.rg rfl fun K hK => bv rfl (qad fo24_0 rfl) (bv rfl (qab ty22 rfl (qam rfl rfl)) ?_)
   obtain ⟨x37, h38, h⟩ := bS h
   refine b_op rfl (qay rfl rfl rfl rfl (ACallD.pure0 (w_merging_uneven h38)) ?_)
   refine mv rfl rfl ?_
   by_cases hg41 : x37 = true
   ·have h := ifT hg41 h
    refine b_F rfl rfl rfl rfl rfl hg41 ?_
    iterate 2 refine b_F rfl rfl rfl rfl rfl rfl ?_
    refine bv rfl (qak rfl rfl rfl) (mv rfl rfl ?_)
    refine qah (hK _ ?_)
    exact to_L ⟨true, (), h, rfl⟩
   have h := ifF hg41 h
   refine b_T rfl rfl rfl rfl (bF hg41) (qai rfl (qad fo24_1 rfl) ?_)
   refine b_T rfl rfl rfl rfl rfl (qai rfl (qab ty22 rfl (qam rfl rfl)) ?_)
   obtain ⟨x39, h40, h⟩ := bS h
   refine b_T rfl rfl rfl rfl rfl (qay rfl rfl rfl rfl (ACallD.pure0 (w_merging_uneven h40)) ?_)
   refine bv rfl (qan rfl rfl rfl) (mv rfl rfl ?_)
   refine qah (hK _ ?_)
   exact to_L ⟨x39, (), h, rfl⟩
  refine AW.rg rfl fun K hK => bv rfl (qad fo24_0 rfl) (bv rfl (qab ty22 rfl (qam rfl rfl)) (bv rfl (qaI rfl rfl ty22 rfl) (bv rfl (qaf rfl rfl b_gtr) (mv rfl rfl ?_))))
  by_cases hg42 : 256 < ((p0.1).length : Int)
  ·have h := ifT hg42 h
   refine b_F rfl rfl rfl rfl rfl (decide_eq_true hg42) ?_
   iterate 3 refine b_F rfl rfl rfl rfl rfl rfl ?_
   refine bv rfl (qak rfl rfl rfl) (mv rfl rfl ?_)
   refine qah (hK _ ?_)
   exact to_L ⟨true, (), h, rfl⟩
  have h := ifF hg42 h
  refine b_T rfl rfl rfl rfl (decide_eq_false hg42) (qai rfl (qad fo24_1 rfl) ?_)
  refine b_T rfl rfl rfl rfl rfl (qai rfl (qab ty22 rfl (qam rfl rfl)) ?_)
  refine b_T rfl rfl rfl rfl rfl (qai rfl (qaI rfl rfl ty22 rfl) ?_)
  refine b_T rfl rfl rfl rfl rfl (qai rfl (qaf rfl rfl b_gtr) ?_)
  refine bv rfl (qan rfl rfl rfl) (mv rfl rfl ?_)
  refine qah (hK _ ?_)
  exact to_L ⟨decide (256 < ((p0.2).length : Int)), (), h, rfl⟩
 refine AW.rg rfl fun K hK => bv rfl (qad fo24_0 rfl) (bv rfl (qab ty22 rfl (qam rfl rfl)) (bv rfl (qaI rfl rfl ty22 rfl) (bv rfl (qaf rfl rfl b_eql) (mv rfl rfl ?_))))
 by_cases hg43 : ((p0.1).length : Int) = 0
 ·have h := ifT hg43 h
  refine b_F rfl rfl rfl rfl rfl (decide_eq_true hg43) ?_
  iterate 3 refine b_F rfl rfl rfl rfl rfl rfl ?_
  refine bv rfl (qak rfl rfl rfl) (mv rfl rfl ?_)
  refine qah (hK _ ?_)
  exact to_L ⟨true, (), h, rfl⟩
 have h := ifF hg43 h
 refine b_T rfl rfl rfl rfl (decide_eq_false hg43) (qai rfl (qad fo24_1 rfl) ?_)
 refine b_T rfl rfl rfl rfl rfl (qai rfl (qab ty22 rfl (qam rfl rfl)) ?_)
 refine b_T rfl rfl rfl rfl rfl (qai rfl (qaI rfl rfl ty22 rfl) ?_)
 refine b_T rfl rfl rfl rfl rfl (qai rfl (qaf rfl rfl b_eql) ?_)
 refine bv rfl (qan rfl rfl rfl) (mv rfl rfl ?_)
 refine qah (hK _ ?_)
 exact to_L ⟨decide (((p0.2).length : Int) = 0), (), h, rfl⟩
theorem w_merging_Check_1 {p0 : List UInt8} {c0 : qaa} {r : Bool} (h : m_merging_Check_1 p0 c0 = some r) : Pure Tryz.prog 85 [.str p0, gF c0] (· = HV.bool r) := by
 unfold m_merging_Check_1 at h
 refine Pure.of_body Tryz.func85 rfl rfl (lb rfl) fun hf => ?_
 unfold Tryz.f85
 dsimp only [qaG, Nat.reduceAdd]
 refine AW.rgs rfl fun K hK => mv rfl rfl ?_
 refine bf hK ⟨[(0, .str p0), (1, gF c0)], []⟩ ?_
 refine AW.rgs rfl fun K hK => bv rfl (qab ty27 rfl (qaz rfl (lb rfl) rfl)) (mv rfl rfl ?_)
 obtain ⟨x1, h2, h⟩ := bS h
 refine b_op rfl (qay rfl rfl rfl rfl (ACallD.pure0 (w_merging_accepts h2)) ?_)
 refine bv rfl (v_not rfl) (mv rfl rfl ?_)
 refine bf hK ⟨[(3, .bool (!x1))], []⟩ ?_
 obtain rfl := oi h
 exact AW.ret (qac (.inr rfl) (resT rfl rfl) rfl trivial)
theorem w_merging_Check {p0 : qaq} {p1 : qaa} {r : Int} (h : m_merging_Check p0 p1 = some r) : Pure Tryz.prog 35 [jA p0, gA p1] (· = hI r) := by
 unfold m_merging_Check at h
 refine Pure.of_body Tryz.func35 rfl rfl (lb rfl) fun hf => ?_
 unfold Tryz.f35
 dsimp only [qaG, Nat.reduceAdd]
 refine AW.rgs rfl fun K hK => b_op rfl (o_box rfl rfl rfl ?_)
 refine b_op rfl (o_box rfl rfl rfl ?_)
 refine mv rfl rfl ?_
 let P3 : ASf := fun t H => ⟨(2, jF p0) :: (3, gF p1) :: t, H⟩
 refine bf hK (P3 [] []) ?_
 refine AW.seq ?_
 refine AW.rgs rfl fun K hK => bv rfl (qab ty27 rfl (qaz rfl (lb rfl) rfl)) ?_
 obtain ⟨x1, h2, h⟩ := bS h
 refine b_op rfl (qay rfl rfl rfl rfl (ACallD.pure0 (w_graph_Check h2)) ?_)
 refine bv rfl (qaf rfl rfl b_neq) ?_
 refine bf hK (P3 [(12, .bool (decide (x1 ≠ 0)))] []) ?_
 refine AW.cond rfl (fun hc => ?_) (fun hc => ?_)
 ·obtain ⟨hc, h⟩ := cT hc h
  refine AW.rgs rfl fun K hK => mv rfl rfl ?_
  refine bf hK ⟨[(4, hI 1)], []⟩ ?_
  obtain rfl := oi h
  exact AW.ret (qac (.inr rfl) (resT rfl rfl) rfl trivial)
 obtain ⟨hc, h⟩ := cF hc h
 refine AW.skip ?_
 refine AW.seq ?_
 refine AW.rgs rfl fun K hK => bv rfl (qad fo27_0 rfl) (bv rfl (qab ty3 rfl (qam rfl rfl)) (bv rfl (qaf rfl rfl b_neq) ?_))
 refine bf hK (P3 [(15, .bool (decide (p1.1 ≠ 2)))] []) ?_
 refine AW.cond rfl (fun hc => ?_) (fun hc => ?_)
 ·obtain ⟨hc, h⟩ := cT hc h
  refine AW.rgs rfl fun K hK => mv rfl rfl ?_
  refine bf hK ⟨[(4, hI 12)], []⟩ ?_
  obtain rfl := oi h
  exact AW.ret (qac (.inr rfl) (resT rfl rfl) rfl trivial)
 obtain ⟨hc, h⟩ := cF hc h
 refine AW.skip ?_
 refine AW.seq ?_
 refine AW.rgs rfl fun K hK => bv rfl (qab ty24 rfl (qaz rfl (lb rfl) rfl)) ?_
 obtain ⟨x3, h4, h⟩ := bS h
 refine b_op rfl (qay rfl rfl rfl rfl (ACallD.pure0 (w_merging_form h4)) ?_)
 refine mv rfl rfl ?_
 refine bf hK (P3 [(5, hI x3)] []) ?_
 refine AW.rgs rfl fun K hK => mv rfl rfl (bv rfl (qaf rfl rfl b_neq) ?_)
 refine bf hK (P3 [(5, hI x3), (19, .bool (decide (x3 ≠ 0)))] []) ?_
 refine AW.cond rfl (fun hc => ?_) (fun hc => ?_)
 ·obtain ⟨hc, h⟩ := cT hc h
  refine AW.rgs rfl fun K hK => mv rfl rfl (mv rfl rfl ?_)
  refine bf hK ⟨[(4, hI x3)], []⟩ ?_
  obtain rfl := oi h
  exact AW.ret (qac (.inr rfl) (resT rfl rfl) rfl trivial)
 obtain ⟨hc, h⟩ := cF hc h
 refine AW.skip ?_
 refine AW.seq ?_
 refine AW.rgs rfl fun K hK => bv rfl (qad fo24_0 rfl) (bv rfl (qab ty22 rfl (qam rfl rfl)) (bv rfl (v_func rfl rfl) ?_))
 obtain ⟨x5, h6, h⟩ := bS h
 refine b_op rfl (qay rfl rfl rfl rfl (ACallD.pure0 (qaE h6 (fun _ _ h => w_merging_Check_1 h))) ?_)
 refine bf hK (P3 [(24, .bool x5)] []) ?_
 refine AW.cond rfl (fun hc => ?_) (fun hc => ?_)
 ·have h := ifT hc h
  refine AW.rgs rfl fun K hK => mv rfl rfl ?_
  refine bf hK ⟨[(4, hI 13)], []⟩ ?_
  obtain rfl := oi h
  exact AW.ret (qac (.inr rfl) (resT rfl rfl) rfl trivial)
 have h := ifF (bF' hc) h
 refine AW.skip ?_
 refine AW.seq ?_
 refine AW.rgs rfl fun K hK => bv rfl (qad fo24_0 rfl) (bv rfl (qab ty22 rfl (qam rfl rfl)) (bv rfl (qaI rfl rfl ty22 rfl) (mv rfl rfl ?_)))
 let E4 : Nat × HV := (27, hI ((p0.1).length : Int))
 refine bf hK (P3 [(26, slE eStr p0.1), E4, (28, hI 0)] []) ?_
 refine AW.lpR h (by first | exact qa5 | exact up_to) (S := Int) (V := Unit) (fun a v => (P3 [(26, slE eStr p0.1), E4, (28, hI a)] [])) ?_ (X := Unit) (W := Unit) (fun a v => ⟨[], []⟩) (fun a23 w24 h => ?_) (fun a7 w8 st9 h hr10=> ?_)
 ·exact to_L ⟨(), rfl⟩
 ·refine AW.rgs rfl fun K hK => mv rfl rfl ?_
  refine bf hK ⟨[(4, hI 0)], []⟩ ?_
  obtain rfl := oi h
  exact AW.ret (qac (.inr rfl) (resT rfl rfl) rfl trivial)
 refine AW.rgs rfl fun K hK => bv rfl (qaf rfl rfl b_lss) ?_
 refine bf hK (P3 [(26, slE eStr p0.1), E4, (28, hI a7), (29, .bool (decide (a7 < ((p0.1).length : Int))))] []) ?_
 refine AW.cseq rfl (fun hc => ?_) (fun hc => ?_)
 ·obtain ⟨hc, h⟩ := cT hc h
  refine AW.skip ?_
  refine AW.seq (AW.block ?_)
  refine AW.rgs rfl fun K hK => ?_
  obtain ⟨x11, h12, h⟩ := bS h
  refine bv rfl (qaW ty22 es22 rfl rfl (qaO h12)) (bv rfl (qab ty9 rfl (qaZ eStr h12 (o := 0) rfl rfl)) (mv rfl rfl ?_))
  refine bf hK (P3 [(7, .str x11), (26, slE eStr p0.1), E4, (28, hI a7)] []) ?_
  refine AW.rgs rfl fun K hK => bv rfl (qad fo24_0 rfl) (bv rfl (qab ty22 rfl (qam rfl rfl)) (bv rfl (qaI rfl rfl ty22 rfl) (mv rfl rfl ?_)))
  let E5 : Nat × HV := (34, hI ((p0.1).length : Int))
  refine bf hK (P3 [(7, .str x11), (26, slE eStr p0.1), E4, (28, hI a7), (33, slE eStr p0.1), E5, (35, hI 0)] []) ?_
  refine AW.lpR h (by first | exact qa5 | exact up_to) (S := Int) (V := Unit) (fun a v => (P3 [(7, .str x11), (26, slE eStr p0.1), E4, (28, hI a7), (33, slE eStr p0.1), E5, (35, hI a)] [])) ?_ (X := Unit) (W := Unit) (fun a v => (P3 [(26, slE eStr p0.1), E4, (28, hI a7)] [])) (fun a21 w22 h => ?_) (fun a13 w14 st15 h hr16=> ?_)
  ·exact to_L ⟨(), rfl⟩
  ·refine AW.rg rfl fun K hK => bv rfl (qaf rfl rfl b_add) (mv rfl rfl ?_)
   refine qah (hK _ ?_)
   exact to_L ⟨IntKind.wrap .i64 (a7 + 1), (), h, rfl⟩
  refine AW.rgs rfl fun K hK => bv rfl (qaf rfl rfl b_lss) ?_
  refine bf hK (P3 [(7, .str x11), (26, slE eStr p0.1), E4, (28, hI a7), (33, slE eStr p0.1), E5, (35, hI a13), (36, .bool (decide (a13 < ((p0.1).length : Int))))] []) ?_
  refine AW.cseq rfl (fun hc => ?_) (fun hc => ?_)
  ·obtain ⟨hc, h⟩ := cT hc h
   refine AW.skip ?_
   refine AW.seq (AW.block ?_)
   refine AW.rgs rfl fun K hK => ?_
   obtain ⟨x17, h18, h⟩ := bS h
   refine bv rfl (qaW ty22 es22 rfl rfl (qaO h18)) (bv rfl (qab ty9 rfl (qaZ eStr h18 (o := 0) rfl rfl)) (mv rfl rfl ?_))
   refine bf hK (P3 [(7, .str x11), (9, .str x17), (26, slE eStr p0.1), E4, (28, hI a7), (33, slE eStr p0.1), E5, (35, hI a13)] []) ?_
   refine AW.rgs rfl fun K hK => bv rfl (qab ty27 rfl (qaz rfl (lb rfl) rfl)) (bv rfl (qad fo24_1 rfl) (bv rfl (qab ty22 rfl (qam rfl rfl)) (mv rfl rfl (mv rfl rfl ?_))))
   obtain ⟨x19, h20, h⟩ := bS h
   refine b_op rfl (qay rfl rfl rfl rfl (ACallD.pure0 (w_merging_joins h20)) ?_)
   refine bv rfl (v_not rfl) ?_
   refine bf hK (P3 [(7, .str x11), (26, slE eStr p0.1), E4, (28, hI a7), (33, slE eStr p0.1), E5, (35, hI a13), (45, .bool (!x19))] []) ?_
   refine AW.cond rfl (fun hc => ?_) (fun hc => ?_)
   ·have h := ifT hc h
    refine AW.rgs rfl fun K hK => mv rfl rfl ?_
    refine bf hK ⟨[(4, hI 15)], []⟩ ?_
    have h := hr16 _ h
    have h := hr10 _ h
    obtain rfl := oi h
    exact AW.ret (qac (.inr rfl) (resT rfl rfl) rfl trivial)
   have h := ifF (bF' hc) h
   refine AW.skip ?_
   refine AW.rg rfl fun K hK => bv rfl (qaf rfl rfl b_add) (mv rfl rfl ?_)
   refine qah (hK _ ?_)
   exact to_L ⟨IntKind.wrap .i64 (a13 + 1), (), h, rfl⟩
  obtain ⟨hc, h⟩ := cF hc h
  refine AW.exit ?_
  exact to_L ⟨(), (), h, rfl⟩
 obtain ⟨hc, h⟩ := cF hc h
 refine AW.exit ?_
 exact to_L ⟨(), (), h, rfl⟩
theorem w_slices_IndexFunc_Lint_int {p0 : List (Int)} {p1 : Int → Option (Bool)} {g1 : FuncId} {z1 : List HV} {r : Int} (h : qaY p0 p1 = some r) (hf1 : ∀ a0 b, p1 a0 = some b → Pure Tryz.prog g1 ([hI a0] ++ z1) (· = HV.bool b)) : Pure Tryz.prog 156 [slE eInt p0, .fn (.func g1) [] z1] (· = hI r) := by
 unfold qaY at h
 refine Pure.of_body Tryz.func156 rfl rfl (lb rfl) fun hf => ?_
 unfold Tryz.f156
 dsimp only [qaG, Nat.reduceAdd]
 refine AW.rgs rfl fun K hK => mv rfl rfl ?_
 let E6 : Nat × HV := (1, .fn (.func g1) [] z1)
 let P4 : ASf := fun t H => ⟨(0, slE eInt p0) :: E6 :: t, H⟩
 refine bf hK (P4 [] []) ?_
 refine AW.seq ?_
 refine AW.rgs rfl fun K hK => mv rfl rfl (bv rfl (qaI rfl rfl ty31 rfl) (mv rfl rfl ?_))
 let E7 : Nat × HV := (7, hI ((p0).length : Int))
 refine bf hK (P4 [E7, (8, hI 0)] []) ?_
 refine AW.lpR h (by first | exact qa5 | exact up_to) (S := Int) (V := Unit) (fun a v => (P4 [E7, (8, hI a)] [])) ?_ (X := Unit) (W := Unit) (fun a v => ⟨[], []⟩) (fun a9 w10 h => ?_) (fun a1 w2 st3 h hr4=> ?_)
 ·exact to_L ⟨(), rfl⟩
 ·refine AW.rgs rfl fun K hK => mv rfl rfl ?_
  refine bf hK ⟨[(4, hI (-1))], []⟩ ?_
  obtain rfl := oi h
  exact AW.ret (qac (.inr rfl) (resT rfl rfl) rfl trivial)
 refine AW.rgs rfl fun K hK => bv rfl (qaf rfl rfl b_lss) ?_
 refine bf hK (P4 [E7, (8, hI a1), (9, .bool (decide (a1 < ((p0).length : Int))))] []) ?_
 refine AW.cseq rfl (fun hc => ?_) (fun hc => ?_)
 ·obtain ⟨hc, h⟩ := cT hc h
  refine AW.skip ?_
  refine AW.seq (AW.block ?_)
  refine AW.rgs rfl fun K hK => mv rfl rfl (mv rfl rfl ?_)
  refine bf hK (P4 [(5, hI a1), E7, (8, hI a1)] []) ?_
  refine AW.rgs rfl fun K hK => mv rfl rfl (mv rfl rfl (mv rfl rfl ?_))
  obtain ⟨x5, h6, h⟩ := bS h
  refine bv rfl (qaW ty31 es31 rfl rfl (qaO h6)) (bv rfl (qab ty3 rfl (qaZ eInt h6 (o := 0) rfl rfl)) ?_)
  obtain ⟨x7, h8, h⟩ := bS h
  refine b_op rfl (qay rfl rfl rfl rfl (ACallD.pure0 (hf1 _ _ h8)) ?_)
  refine bf hK (P4 [(5, hI a1), E7, (8, hI a1), (16, .bool x7)] []) ?_
  refine AW.cond rfl (fun hc => ?_) (fun hc => ?_)
  ·have h := ifT hc h
   refine AW.rgs rfl fun K hK => mv rfl rfl (mv rfl rfl ?_)
   refine bf hK ⟨[(4, hI a1)], []⟩ ?_
   have h := hr4 _ h
   obtain rfl := oi h
   exact AW.ret (qac (.inr rfl) (resT rfl rfl) rfl trivial)
  have h := ifF (bF' hc) h
  refine AW.skip ?_
  refine AW.rg rfl fun K hK => bv rfl (qaf rfl rfl b_add) (mv rfl rfl ?_)
  refine qah (hK _ ?_)
  exact to_L ⟨IntKind.wrap .i64 (a1 + 1), (), h, rfl⟩
 obtain ⟨hc, h⟩ := cF hc h
 refine AW.exit ?_
 exact to_L ⟨(), (), h, rfl⟩
theorem w_slices_ContainsFunc_Lint_int {p0 : List (Int)} {p1 : Int → Option (Bool)} {g1 : FuncId} {z1 : List HV} {r : Bool} (h : qaV p0 p1 = some r) (hf1 : ∀ a0 b, p1 a0 = some b → Pure Tryz.prog g1 ([hI a0] ++ z1) (· = HV.bool b)) : Pure Tryz.prog 105 [slE eInt p0, .fn (.func g1) [] z1] (· = HV.bool r) := by
 unfold qaV at h
 refine Pure.of_body Tryz.func105 rfl rfl (lb rfl) fun hf => ?_
 unfold Tryz.f105
 dsimp only [qaG, Nat.reduceAdd]
 refine AW.rgs rfl fun K hK => mv rfl rfl ?_
 refine bf hK ⟨[(0, slE eInt p0), (1, .fn (.func g1) [] z1)], []⟩ ?_
 refine AW.rgs rfl fun K hK => mv rfl rfl (mv rfl rfl ?_)
 obtain ⟨x1, h2, h⟩ := bS h
 refine b_op rfl (qay rfl rfl rfl rfl (ACallD.pure0 (w_slices_IndexFunc_Lint_int h2 hf1)) ?_)
 refine bv rfl (qaf rfl rfl b_geq) (mv rfl rfl ?_)
 refine bf hK ⟨[(4, .bool (decide (0 ≤ x1)))], []⟩ ?_
 obtain rfl := oi h
 exact AW.ret (qac (.inr rfl) (resT rfl rfl) rfl trivial)
theorem w_merging_inputs_1 {p0 : Int} {c0 : qaq} {r : Bool} (h : m_merging_inputs_1 p0 c0 = some r) : Pure Tryz.prog 106 [hI p0, jF c0] (· = HV.bool r) := by
 unfold m_merging_inputs_1 at h
 refine Pure.of_body Tryz.func106 rfl rfl (lb rfl) fun hf => ?_
 unfold Tryz.f106
 dsimp only [qaG, Nat.reduceAdd]
 refine AW.rgs rfl fun K hK => mv rfl rfl ?_
 refine bf hK ⟨[(0, hI p0), (1, jF c0)], []⟩ ?_
 refine AW.seqJ h (S := Bool) (V := Unit) (fun a v => ⟨[(3, .bool a)], []⟩) (fun a1 w2 h => ?_) (fun k3 h => ?_)
 ·obtain rfl := oi h
  exact AW.ret (qac (.inr rfl) (resT rfl rfl) rfl trivial)
 refine AW.rg rfl fun K hK => mv rfl rfl (bv rfl (qaf rfl rfl b_lss) (mv rfl rfl ?_))
 by_cases hg4 : p0 < 0
 ·have h := ifT hg4 h
  refine b_F rfl rfl rfl rfl rfl (decide_eq_true hg4) ?_
  iterate 4 refine b_F rfl rfl rfl rfl rfl rfl ?_
  refine bv rfl (qak rfl rfl rfl) (mv rfl rfl ?_)
  refine qah (hK _ ?_)
  exact to_L ⟨true, (), h, rfl⟩
 have h := ifF hg4 h
 refine b_T rfl rfl rfl rfl (decide_eq_false hg4) (qai rfl (qaR rfl rfl).2 ?_)
 refine b_T rfl rfl rfl rfl rfl (qai rfl (qad fo24_0 rfl) ?_)
 refine b_T rfl rfl rfl rfl rfl (qai rfl (qab ty22 rfl (qam rfl rfl)) ?_)
 refine b_T rfl rfl rfl rfl rfl (qai rfl (qaI rfl rfl ty22 rfl) ?_)
 refine b_T rfl rfl rfl rfl rfl (qai rfl (qaf rfl rfl b_geq) ?_)
 refine bv rfl (qan rfl rfl rfl) (mv rfl rfl ?_)
 refine qah (hK _ ?_)
 exact to_L ⟨decide (((c0.1).length : Int) ≤ p0), (), h, rfl⟩
theorem w_merging_inputs {p0 : qaq} {p1 : qaa} {p2 : List (Int)} {r : Int} (h : m_merging_inputs p0 p1 p2 = some r) : Pure Tryz.prog 52 [jA p0, gA p1, slE eInt p2] (· = hI r) := by
 unfold m_merging_inputs at h
 refine Pure.of_body Tryz.func52 rfl rfl (lb rfl) fun hf => ?_
 unfold Tryz.f52
 dsimp only [qaG, Nat.reduceAdd]
 refine AW.rgs rfl fun K hK => b_op rfl (o_box rfl rfl rfl ?_)
 refine b_op rfl (o_box rfl rfl rfl ?_)
 refine mv rfl rfl ?_
 refine bf hK ⟨[(2, slE eInt p2), (3, jF p0), (4, gF p1)], []⟩ ?_
 refine AW.seq ?_
 refine AW.rgs rfl fun K hK => bv rfl (qab ty24 rfl (qaz rfl (lb rfl) rfl)) (bv rfl (qab ty27 rfl (qaz rfl (lb rfl) rfl)) ?_)
 obtain ⟨x1, h2, h⟩ := bS h
 refine b_op rfl (qay rfl rfl rfl rfl (ACallD.pure0 (w_merging_Check h2)) ?_)
 refine bv rfl (qaf rfl rfl b_neq) ?_
 refine bf hK ⟨[(2, slE eInt p2), (3, jF p0), (10, .bool (decide (x1 ≠ 0)))], []⟩ ?_
 refine AW.cond rfl (fun hc => ?_) (fun hc => ?_)
 ·obtain ⟨hc, h⟩ := cT hc h
  refine AW.rgs rfl fun K hK => mv rfl rfl ?_
  refine bf hK ⟨[(6, hI 1)], []⟩ ?_
  obtain rfl := oi h
  exact AW.ret (qac (.inr rfl) (resT rfl rfl) rfl trivial)
 obtain ⟨hc, h⟩ := cF hc h
 refine AW.skip ?_
 refine AW.seq ?_
 refine AW.rgs rfl fun K hK => mv rfl rfl (bv rfl (v_func rfl rfl) ?_)
 obtain ⟨x3, h4, h⟩ := bS h
 refine b_op rfl (qay rfl rfl rfl rfl (ACallD.pure0 (w_slices_ContainsFunc_Lint_int h4 (fun _ _ h => w_merging_inputs_1 h))) ?_)
 refine bf hK ⟨[(13, .bool x3)], []⟩ ?_
 refine AW.cond rfl (fun hc => ?_) (fun hc => ?_)
 ·have h := ifT hc h
  refine AW.rgs rfl fun K hK => mv rfl rfl ?_
  refine bf hK ⟨[(6, hI 2)], []⟩ ?_
  obtain rfl := oi h
  exact AW.ret (qac (.inr rfl) (resT rfl rfl) rfl trivial)
 have h := ifF (bF' hc) h
 refine AW.skip ?_
 refine AW.rgs rfl fun K hK => mv rfl rfl ?_
 refine bf hK ⟨[(6, hI 0)], []⟩ ?_
 obtain rfl := oi h
 exact AW.ret (qac (.inr rfl) (resT rfl rfl) rfl trivial)
theorem w_runs_Disparity {p0 : List UInt8} {r : Int × Int} (h : m_runs_Disparity p0 = some r) : Pure Tryz.prog 63 [.str p0] (· = HV.tup [hI r.1, hI r.2]) := by
 unfold m_runs_Disparity at h
 refine Pure.of_body Tryz.func63 rfl rfl (lb rfl) fun hf => ?_
 unfold Tryz.f63
 dsimp only [qaG, Nat.reduceAdd]
 refine AW.rgs rfl fun K hK => mv rfl rfl (mv rfl rfl ?_)
 refine bf hK ⟨[(0, .str p0)], []⟩ ?_
 refine AW.seq ?_
 refine AW.rgs rfl fun K hK => mv rfl rfl ?_
 obtain ⟨x1, h2, h⟩ := bS h
 refine b_op rfl (qay rfl rfl rfl rfl (ACallD.pure0 (w_word_Check h2)) ?_)
 refine mv rfl rfl ?_
 refine bf hK ⟨[(0, .str p0), (4, hI x1)], []⟩ ?_
 refine AW.rgs rfl fun K hK => mv rfl rfl (bv rfl (qaf rfl rfl b_neq) ?_)
 refine bf hK ⟨[(0, .str p0), (4, hI x1), (8, .bool (decide (x1 ≠ 0)))], []⟩ ?_
 refine AW.cond rfl (fun hc => ?_) (fun hc => ?_)
 ·obtain ⟨hc, h⟩ := cT hc h
  refine AW.rgs rfl fun K hK => mv rfl rfl (mv rfl rfl (mv rfl rfl ?_))
  refine bf hK ⟨[(2, hI 0), (3, hI x1)], []⟩ ?_
  obtain rfl := oi h
  exact AW.ret (qac (.inr rfl) (resT rfl (resT rfl rfl)) rfl ⟨trivial, trivial, trivial⟩)
 obtain ⟨hc, h⟩ := cF hc h
 refine AW.skip ?_
 refine AW.rgs rfl fun K hK => mv rfl rfl ?_
 obtain ⟨x3, h4, h⟩ := bS h
 refine b_op rfl (qay rfl rfl rfl rfl (ACallD.pure0 (w_strings_Count h4)) ?_)
 refine bv rfl (qaf rfl rfl b_mul) (mv rfl rfl (bv rfl (v_lenS rfl rfl ty9 rfl) (bv rfl (qaf rfl rfl b_sub) (mv rfl rfl (mv rfl rfl ?_)))))
 refine bf hK ⟨[(2, hI (IntKind.wrap .i64 ((IntKind.wrap .i64 (2 * x3)) - ((p0).length : Int)))), (3, hI 0)], []⟩ ?_
 obtain rfl := oi h
 exact AW.ret (qac (.inr rfl) (resT rfl (resT rfl rfl)) rfl ⟨trivial, trivial, trivial⟩)
theorem w_merging_weight {p0 : List UInt8} {r : Int} (h : qbe p0 = some r) : Pure Tryz.prog 55 [.str p0] (· = hI r) := by
 unfold qbe at h
 refine Pure.of_body Tryz.func55 rfl rfl (lb rfl) fun hf => ?_
 unfold Tryz.f55
 dsimp only [qaG, Nat.reduceAdd]
 refine AW.rgs rfl fun K hK => mv rfl rfl ?_
 refine bf hK ⟨[(0, .str p0)], []⟩ ?_
 refine AW.rgs rfl fun K hK => mv rfl rfl ?_
 obtain ⟨x1, h2, h⟩ := bS h
 refine b_op rfl (qay rfl rfl rfl rfl (ACallD.pure0 (w_runs_Disparity h2)) ?_)
 refine mv rfl rfl (bv rfl (qat rfl rfl) (bv rfl (qat rfl rfl) (mv rfl rfl (mv rfl rfl ?_))))
 refine bf hK ⟨[(3, hI x1.1)], []⟩ ?_
 refine AW.rgs rfl fun K hK => mv rfl rfl (mv rfl rfl ?_)
 refine bf hK ⟨[(2, hI x1.1)], []⟩ ?_
 obtain rfl := oi h
 exact AW.ret (qac (.inr rfl) (resT rfl rfl) rfl trivial)
theorem w_merging_step {p0 : qaa} {p1 : List (Int)} {p2 : List UInt8} {r : (List (Int))} (h : m_merging_step p0 p1 p2 = some r) : Pure Tryz.prog 56 [gA p0, slE eInt p1, .str p2] (· = slE eInt r) := by
 unfold m_merging_step at h
 refine Pure.of_body Tryz.func56 rfl rfl (lb rfl) fun hf => ?_
 unfold Tryz.f56
 dsimp only [qaG, Nat.reduceAdd]
 refine AW.rgs rfl fun K hK => b_op rfl (o_box rfl rfl rfl ?_)
 refine mv rfl rfl ?_
 refine bf hK ⟨[(1, slE eInt p1), (2, .str p2), (3, gF p0)], []⟩ ?_
 refine AW.seq ?_
 refine AW.rgs rfl fun K hK => mv rfl rfl (bv rfl (v_lenS rfl rfl ty9 rfl) (mv rfl rfl ?_))
 let E8 : Nat × HV := (9, hI ((p2).length : Int))
 refine bf hK ⟨[(1, slE eInt p1), (2, .str p2), (3, gF p0), E8, (10, hI 0)], []⟩ ?_
 refine AW.lpX h (by first | exact qa5 | exact up_to) (S := (List Int) × Int) (V := Unit) (fun a v => ⟨[(1, slE eInt a.1), (2, .str p2), (3, gF p0), E8, (10, hI a.2)], []⟩) ?_ (X := (List Int)) (W := Unit) (fun a v => ⟨[(1, slE eInt a)], []⟩) (fun a11 w12 h => ?_) (fun a1 w2 st3 h => ?_)
 ·exact to_L ⟨(), rfl⟩
 ·refine AW.rgs rfl fun K hK => mv rfl rfl (mv rfl rfl ?_)
  refine bf hK ⟨[(6, slE eInt a11)], []⟩ ?_
  obtain rfl := oi h
  exact AW.ret (qac (.inr rfl) (resT rfl rfl) rfl (qao fun _ _ => ⟨trivial, trivial⟩))
 refine AW.rgs rfl fun K hK => bv rfl (qaf rfl rfl b_lss) ?_
 refine bf hK ⟨[(1, slE eInt a1.1), (2, .str p2), (3, gF p0), E8, (10, hI a1.2), (11, .bool (decide (a1.2 < ((p2).length : Int))))], []⟩ ?_
 refine AW.cseq rfl (fun hc => ?_) (fun hc => ?_)
 ·obtain ⟨hc, h⟩ := cT hc h
  refine AW.skip ?_
  refine AW.seq (AW.block ?_)
  refine AW.rgs rfl fun K hK => mv rfl rfl (mv rfl rfl ?_)
  refine bf hK ⟨[(1, slE eInt a1.1), (2, .str p2), (3, gF p0), (7, hI a1.2), E8, (10, hI a1.2)], []⟩ ?_
  refine AW.dg 11 follows rfl rfl fun K hK => ?_
  refine sv rfl (qab ty27 rfl (qaz rfl (lb rfl) rfl)) ?_
  iterate 3 refine sm rfl rfl ?_
  obtain ⟨x5, h6, h⟩ := bS h
  refine sv rfl (v_idxS ty9 rfl rfl h6) ?_
  obtain ⟨x7, h8, h⟩ := bS h
  refine s_op rfl rfl (qaS rfl rfl rfl rfl (ACallD.pure0 (w_strings_IndexByte h8)) ?_)
  obtain ⟨x9, h10, h⟩ := bS h
  refine s_op rfl rfl (qaS rfl rfl rfl rfl (ACallD.pure0 (w_graph_Step h10)) ?_)
  refine sm rfl rfl ?_
  refine sv rfl (qat rfl rfl) ?_
  refine sv rfl (qat rfl rfl) ?_
  refine sm rfl rfl ?_
  refine s_nil ?_
  refine bf hK ⟨[(1, slE eInt x9.1), (2, .str p2), (3, gF p0), E8, (10, hI a1.2)], []⟩ ?_
  refine AW.rg rfl fun K hK => bv rfl (qaf rfl rfl b_add) (mv rfl rfl ?_)
  refine qah (hK _ ?_)
  exact to_L ⟨(x9.1, IntKind.wrap .i64 (a1.2 + 1)), (), h, rfl⟩
 obtain ⟨hc, h⟩ := cF hc h
 refine AW.exit ?_
 exact to_L ⟨a1.1, (), h, rfl⟩
end Go.AW
