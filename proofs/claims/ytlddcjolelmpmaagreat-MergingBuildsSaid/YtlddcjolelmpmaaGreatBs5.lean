import Derived.Test.YtlddcjolelmpmaaGreatBs4
import Derived.Laws.Externs
import Derived.Lib.Builder
import Derived.Lib.UnsafeStr
import Derived.Shelf.RegionOpenPlain
import Derived.Shelf.Strings.Repeat
import Derived.Test.YtlddcjolelmpmaaGreatChecked
import Derived.WalkKit
set_option linter.unusedSimpArgs false
set_option linter.unusedVariables false
noncomputable section
namespace Go.AW
open Go
section
variable {w : World} {μ μ' : Mu}
structure Near (μ μ' : Mu) : Prop where
 live : ∀ id ver b, μ.loc id = some (ver, b) → μ'.loc id = some (ver, b) ∨ μ'.dead id ver
 dead : ∀ id ver, μ.dead id ver → μ'.dead id ver
 owns : ∀ b, ¬ μ.owns b → ¬ μ'.owns b
 back : ∀ id ver b, μ'.loc id = some (ver, b) → ver < μ.nx → μ.loc id = some (ver, b)
 nx : μ.nx ≤ μ'.nx
mutual
theorem Rep.near (N : Near μ μ') : ∀ (hv : HV) (val : Value), Rep w μ hv val → Rep w μ' hv val
 | .int _ _, _, h => h
 | .bool _, _, h => h
 | .str _, _, h => h
 | .v _, _, h => h
 | .agg cs, _, ⟨h1, vs, e, h⟩ => ⟨h1, vs, e, RepL.near N cs vs h⟩
 | .tup cs, _, ⟨vs, e, h⟩ => ⟨vs, e, RepL.near N cs vs h⟩
 | .sl _ _ cs, _, ⟨h1, hl, hm, h⟩ => ⟨h1, hl, hm, h.imp id fun ⟨b, off, cap, vs, e, hn, ho, hs, hr⟩ => ⟨b, off, cap, vs, e, hn, N.owns b ho, hs, RepL.near N cs vs hr⟩⟩
 | .ar id ver k off n, val, h => by
  rcases h with ⟨l, hl, h⟩ | ⟨hd, h⟩
  ·rcases N.live id ver l hl with hl' | hd
   ·exact .inl ⟨l, hl', h⟩
   refine .inr ⟨hd, ?_⟩
   rcases h with ⟨_, rfl, _⟩ | ⟨b, cap, cur, e, rfl, rfl, _⟩
   ·exact ⟨_, _, _, rfl⟩
   exact ⟨_, _, _, rfl⟩
  exact .inr ⟨N.dead _ _ hd, h⟩
 | .ptr id ver off, val, h => by
  rcases h with ⟨b, hl, rfl⟩ | ⟨hd, h⟩
  ·rcases N.live id ver _ hl with hl' | hd
   ·exact .inl ⟨b, hl', rfl⟩
   exact .inr ⟨hd, _, rfl⟩
  exact .inr ⟨N.dead _ _ hd, h⟩
 | .fptr cs _, _, ⟨h1, b, base, vs, e, ho, hs, hr⟩ => ⟨h1, b, base, vs, e, N.owns b ho, hs, RepL.near N cs vs hr⟩
 | .fn _ fs cs, _, ⟨us, vs, e, h1, h2⟩ => ⟨us, vs, e, RepL.near N fs us h1, RepL.near N cs vs h2⟩
 | .mp id ver, val, h => by
  rcases h with ⟨b, hl, rfl⟩ | ⟨hd, h⟩
  ·rcases N.live id ver _ hl with hl' | hd
   ·exact .inl ⟨b, hl', rfl⟩
   exact .inr ⟨hd, _, rfl⟩
  exact .inr ⟨N.dead _ _ hd, h⟩
 | .yl id ver, val, h => by
  rcases h with ⟨b, hl, rfl⟩ | ⟨hd, h⟩
  ·rcases N.live id ver _ hl with hl' | hd
   ·exact .inl ⟨b, hl', rfl⟩
   exact .inr ⟨hd, _, rfl⟩
  exact .inr ⟨N.dead _ _ hd, h⟩
 | .it id ver, val, h => by
  rcases h with ⟨b, hl, rfl⟩ | ⟨hd, h⟩
  ·rcases N.live id ver _ hl with hl' | hd
   ·exact .inl ⟨b, hl', rfl⟩
   exact .inr ⟨hd, _, rfl⟩
  exact .inr ⟨N.dead _ _ hd, h⟩
theorem RepL.near (N : Near μ μ') : ∀ (cs : List HV) (vs : List Value), RepL w μ cs vs → RepL w μ' cs vs
 | [], _, h => h
 | c :: cs, _, ⟨x, xs, e, h1, h2⟩ => ⟨x, xs, e, Rep.near N c x h1, RepL.near N cs xs h2⟩
end
theorem OR.near (N : Near μ μ') {o : AObj} {l : Option Nat} (h : OR w μ o l) : OR w μ' o l := by
 cases l with
 | none => cases o <;> exact h
 | some b =>
  cases o with
  | arr k e cs =>
   obtain ⟨h0, cur, vs, rest, h1, h2, h3⟩ := h
   exact ⟨h0, cur, vs, rest, h1, h2, RepL.near N _ _ h3⟩
  | map es =>
   obtain ⟨ents, clock, h1, h2, h3, h4, h5⟩ := h
   exact ⟨ents, clock, h1, h2, RepL.near N _ _ h3, h4, h5⟩
  | iter mid mver seen cur =>
   obtain ⟨h0, mb, since, sn, last, h1, h2⟩ := h
   exact ⟨Nat.lt_of_lt_of_le h0 N.nx, mb, since, sn, last, h1, fun l hl' => h2 l (N.back _ _ _ hl' h0)⟩
  | loop st pend f n snap ps assign body =>
   obtain ⟨tmps, dfr, h1, h2, h3⟩ := h
   exact ⟨tmps, dfr, h1, h2, fun t hv ht => ⟨(h3 t hv ht).1, Rep.near N _ _ (h3 t hv ht).2⟩⟩
  | kmap es => exact h
end
section
variable {P : Program} {ro : Option Nat} {N : Nat}
theorem AOp.yieldH {o : Oper} {K : AS → Prop} {c : Call} {g : Operand} {id ver : Nat} {hs : List HV} {sl : List (Nat × HV)} {H : Heap} {t iO v k n : Nat} {e : TypeId} {cs : List HV} (hop : o.op = .call c) (hc : c.callee = .value g) (hN : okd N o.dst = true)
  (hg : (⟨sl, (iO, v, .arr k e cs) :: H⟩ : AS).ev g = some (.yl id ver)) (ha : c.args.toList.mapM (⟨sl, (iO, v, .arr k e cs) :: H⟩ : AS).ev = some hs) (ht : sget sl t = some (.ar iO v k 0 n)) (hf : hget H iO = none)
  (h : YCall P id ver hs H fun r H' => ∀ iN v2, hget H' iN = none → K (({ slots := sset sl t (.ar iN v2 k 0 n), heap := (iN, v2, .arr k e cs) :: H' } : AS).put o.dst r)) : AOp P ro N o K ⟨sl, (iO, v, .arr k e cs) :: H⟩ := by
 intro w0 μ0 μ a w next Q hsr hE hK
 refine ⟨fun f _ => trivial, ?_⟩
 rw [Oper.semAt_eq _ _ _ (fun c e => by rw [hop] at e; cases e)]
 obtain ⟨f, n', snap, ps, assign, body, hgl, hps, hpn, hround⟩ := h
 have hlt : ∀ {j x}, hget H j = some x → hget ((iO, v, .arr k e cs) :: H) j = some x := fun {j x} hx => qe6 hf j x hx
 obtain ⟨l1, hl1, hor1⟩ := hsr.sr.has iO v _ qaY
 -- the one that owns less
 let μc : Mu := { nx := μ.nx, loc := fun i => if i = iO then none else μ.loc i, held := fun b => μ.held b ∨ l1 = some b }
 have hcl : ∀ {i x}, μc.loc i = some x → i ≠ iO ∧ μ.loc i = some x := fun {i x} hx => by
  simp only [μc] at hx
  split at hx
  ·cases hx
  exact ⟨by assumption, hx⟩
 have hcl' : ∀ {i x}, i ≠ iO → μ.loc i = some x → μc.loc i = some x := fun {i x} hi hx => by
  simp only [μc]
  rw [if_neg hi]
  exact hx
 have hco : ∀ b, μc.owned b → μ.owned b := fun b ⟨i, u, hx⟩ => ⟨i, u, (hcl hx).2⟩
 have hcw : ∀ b, μc.owns b → μ.owns b := fun b hb => by
  rcases hb with hb | hb | hb
  ·exact .inl (hco b hb)
  ·exact .inr hb
  exact .inl ⟨iO, v, by rw [hl1, hb]⟩
 have hnear : Near μ μc := by
  refine ⟨fun i u b hx => ?_, fun i u ⟨h1, h2⟩ => ⟨h1, fun b hx => h2 b (hcl hx).2⟩, fun b hb hx => hb (hcw b hx), fun i u b hx _ => (hcl hx).2, Nat.le_refl _⟩
  by_cases ei : i = iO
  ·refine .inr ⟨hsr.sr.ok i u b hx, fun b' hx' => (hcl hx').1 ei⟩
  exact .inl (hcl' ei hx)
 have hsc : SR w μc H := by
  refine ⟨fun i u b hx => hsr.sr.ok i u b (hcl hx).2, fun i u o ho => ?_, fun i x hx => ?_, fun i j u u' b h1 h2 => hsr.sr.inj i j u u' b (hcl h1).2 (hcl h2).2, fun b hb => ?_⟩
  ·obtain ⟨l, hl, hor⟩ := hsr.sr.has i u o (hlt ho)
   have ei : i ≠ iO := fun ei => by subst ei; rw [hf] at ho; cases ho
   exact ⟨l, hcl' ei hl, OR.near hnear hor⟩
  ·obtain ⟨ei, hx⟩ := hcl hx
   obtain ⟨y, hy⟩ := hsr.sr.only i x hx
   rw [qaz ei] at hy
   exact ⟨y, hy⟩
  rcases hb with hb | hb
  ·exact ⟨(hsr.sr.held b hb).1, fun ho => (hsr.sr.held b hb).2 (hco b ho)⟩
  subst hb
  refine ⟨hsr.sr.blk hl1, fun ⟨i, u, hx⟩ => ?_⟩
  obtain ⟨ei, hx⟩ := hcl hx
  exact ei (hsr.sr.inj i iO u v b hx hl1)
 have hvs0 := qhb hsr ha
 have hvs : RepL w μc hs (c.args.toList.map a.eval) := RepL.near hnear _ _ hvs0
 obtain ⟨l0, hl0, hor0⟩ := hsc.has id ver _ hgl
 have hlive : ∃ l, μc.loc id = some (ver, some l) ∧ a.eval g = .func (.yield l) #[] #[] := by
  rcases Rep.near hnear _ _ (hsr.ev hg) with ⟨b, hb, hv⟩ | ⟨hd, _⟩
  ·exact ⟨b, hb, hv⟩
  exact absurd hl0 (hd.2 l0)
 obtain ⟨l, hl, hv⟩ := hlive
 rw [hl] at hl0
 cases hl0
 obtain ⟨tmps, dfr, hb, hz, hsn⟩ := hor0
 have hvl := hvs.length
 have hrun : (execOp a.eval o).run P w = .ok (.round l f ((ps.zip (c.args.map a.eval)).foldl (fun tmps (x : Tmp × Value) => tmps.setIfInBounds x.1 x.2) tmps) assign body) w := by
  have hlen : c.args.size = ps.size := by
   have h1 : hs.length = (c.args.toList.map a.eval).length := hvl.symm
   simp only [List.length_map, Array.length_toList] at h1
   omega
  simp [execOp, hop, resolve, hc, hv, Deferred.ofValue, invoke, Instr.yield, qbB hb, hlen, Result.andThen]
 rw [hrun]
 refine ⟨fun hd => absurd (qfc ro hd) (by omega), ?_⟩
 obtain ⟨hsz, hslot⟩ := qiA ps.toList hs (c.args.toList.map a.eval) snap tmps n' (by simpa using hps) hpn hz hvs hsn
 have htm : (ps.zip (c.args.map a.eval)).foldl (fun tmps (x : Tmp × Value) => tmps.setIfInBounds x.1 x.2) tmps = (ps.toList.zip (c.args.toList.map a.eval)).foldl (fun tmps (x : Tmp × Value) => tmps.setIfInBounds x.1 x.2) tmps := by
  rw [← Array.foldl_toList]
  simp
 rw [htm]
 have hroc : RoOk ro w μc := fun g hg => ⟨(hsr.ro g hg).1, fun ho => (hsr.ro g hg).2 (hco g ho)⟩
 have hs0 : SRel (some l) n' w.heap.size μc { slots := qeq snap ps.toList hs, heap := H } { tmps := (ps.toList.zip (c.args.toList.map a.eval)).foldl (fun tmps (x : Tmp × Value) => tmps.setIfInBounds x.1 x.2) tmps, defers := [] } w :=
  ⟨hsz, hsc, hslot, Marks.nil _ _ _, hroc⟩
 -- what follows when the round is over
 have fin : ∀ (w4 : World) (μ3 : Mu) (H3 : Heap) (r : HV) (rv : Value), SR w4 μ3 H3 → Evo w μc w4 μ3 → (∀ μ, Rep w4 μ r rv) → (∀ iN v2, hget H3 iN = none → K (({ slots := sset sl t (.ar iN v2 k 0 n), heap := (iN, v2, .arr k e cs) :: H3 } : AS).put o.dst r)) → next (a.put o.dst rv) w4 := by
  intro w4 μ3 H3 r rv hs3 E hr hq
  have hfr := qfa H3
  generalize qgK H3 = iN at hfr
  have hN3 : μ3.loc iN = none := by
   cases hx : μ3.loc iN with
   | none => rfl
   | some x =>
    obtain ⟨y, hy⟩ := hs3.only iN x hx
    rw [hfr] at hy
    cases hy
  let μ2 : Mu := { nx := μ3.nx + 1, loc := fun i => if i = iN then some (μ3.nx, l1) else μ3.loc i, held := μ.held }
  have h2N : μ2.loc iN = some (μ3.nx, l1) := if_pos rfl
  have h2o : ∀ {i}, i ≠ iN → μ2.loc i = μ3.loc i := fun {i} hi => if_neg hi
  have hheld : ∀ b, μ3.held b ↔ μ.held b ∨ l1 = some b := fun b => by
   have := E.held
   rw [this]
  have hown2 : ∀ b, μ2.owned b → μ3.owned b ∨ l1 = some b := fun b ⟨i, u, hx⟩ => by
   by_cases ei : i = iN
   ·subst ei; rw [h2N] at hx; cases hx; exact .inr rfl
   rw [h2o ei] at hx; exact .inl ⟨i, u, hx⟩
  have hown3 : ∀ b, μ3.owned b → μ2.owned b := fun b ⟨i, u, hx⟩ => by
   have ei : i ≠ iN := fun ei => by subst ei; rw [hN3] at hx; cases hx
   exact ⟨i, u, by rw [h2o ei]; exact hx⟩
  have hmu3 : ∀ b, l1 = some b → ¬ μ3.owned b := fun b hb ho => (hs3.held b ((hheld b).2 (.inr hb))).2 ho
  have hnear2 : Near μ3 μ2 := by
   refine ⟨fun i u b hx => .inl ?_, fun i u ⟨h1, h2⟩ => ⟨Nat.lt_succ_of_lt h1, fun b hx => ?_⟩, fun b hb hx => hb ?_, fun i u b hx hlt' => ?_, Nat.le_succ _⟩
   ·have ei : i ≠ iN := fun ei => by subst ei; rw [hN3] at hx; cases hx
    rw [h2o ei]; exact hx
   ·by_cases ei : i = iN
    ·subst ei; rw [h2N] at hx; cases hx; omega
    rw [h2o ei] at hx; exact h2 b hx
   ·rcases hx with hx | hx
    ·rcases hown2 b hx with h | h
     ·exact .inl h
     exact .inr ((hheld b).2 (.inr h))
    exact .inr ((hheld b).2 (.inl hx))
   by_cases ei : i = iN
   ·subst ei; rw [h2N] at hx; cases hx; omega
   rw [h2o ei] at hx; exact hx
  have hnx : μ.nx ≤ μ3.nx := E.nx
  have E2 : Evo w μ w4 μ2 := by
   refine ⟨E.os, E.tape, E.output, E.size, Nat.le_succ_of_le hnx, fun b hb ho => E.keep b hb fun hc => ho (hco b hc), fun i u b hx hlt' => ?_, fun i u b hx hlt' cur e' hr' => ?_, fun i u b hx hb => ?_, rfl⟩
   ·by_cases ei : i = iN
    ·subst ei; rw [h2N] at hx; cases hx; omega
    rw [h2o ei] at hx; exact (hcl (E.loc i u b hx hlt')).2
   ·by_cases ei : i = iN
    ·subst ei; rw [h2N] at hx; cases hx; omega
    rw [h2o ei] at hx; exact E.row i u b hx hlt' cur e' hr'
   by_cases ei : i = iN
   ·subst ei; rw [h2N] at hx; cases hx; exact ⟨iO, v, hl1⟩
   rw [h2o ei] at hx; exact hco b (E.own i u b hx hb)
  have hor4 : OR w4 μ2 (.arr k e cs) l1 := by
   cases l1 with
   | none => exact hor1
   | some b1 =>
    obtain ⟨h0, cur, vs, rest, ⟨lo, hi, h1, h1'⟩, h2, h3⟩ := hor1
    have hb1 := hsr.sr.blk hl1
    have hk := E.keep b1 hb1 fun ⟨i, u, hx⟩ => by
     obtain ⟨ei, hx⟩ := hcl hx
     exact ei (hsr.sr.inj i iO u v b1 hx hl1)
    exact ⟨h0, cur, vs, rest, ⟨lo, hi, hk.trans h1, h1'⟩, h2, RepL.evo E2 hsr.sr.ok _ _ h3⟩
  have hs2 : SR w4 μ2 ((iN, μ3.nx, .arr k e cs) :: H3) := by
   refine ⟨fun i u b hx => ?_, fun i u o ho => ?_, fun i x hx => ?_, fun i j u u' b h1 h2 => ?_, fun b hb => ?_⟩
   ·by_cases ei : i = iN
    ·subst ei; rw [h2N] at hx; cases hx; exact Nat.lt_succ_self _
    rw [h2o ei] at hx; exact Nat.lt_succ_of_lt (hs3.ok i u b hx)
   ·by_cases ei : i = iN
    ·subst ei; rw [qaY] at ho; cases ho; exact ⟨l1, h2N, hor4⟩
    rw [qaz ei] at ho
    obtain ⟨l', hl', hor'⟩ := hs3.has i u o ho
    exact ⟨l', by rw [h2o ei]; exact hl', OR.near hnear2 hor'⟩
   ·by_cases ei : i = iN
    ·subst ei; exact ⟨_, qaY⟩
    rw [h2o ei] at hx
    obtain ⟨y, hy⟩ := hs3.only i x hx
    exact ⟨y, by rw [qaz ei]; exact hy⟩
   ·by_cases ei : i = iN
    ·subst ei
     rw [h2N] at h1
     cases h1
     by_cases ej : j = i
     ·exact ej.symm
     rw [h2o ej] at h2
     exact absurd ⟨j, u', h2⟩ (hmu3 b rfl)
    rw [h2o ei] at h1
    by_cases ej : j = iN
    ·subst ej
     rw [h2N] at h2
     cases h2
     exact absurd ⟨i, u, h1⟩ (hmu3 b rfl)
    rw [h2o ej] at h2
    exact hs3.inj i j u u' b h1 h2
   obtain ⟨hb1, hb2⟩ := hs3.held b ((hheld b).2 (.inl hb))
   refine ⟨hb1, fun ho => ?_⟩
   rcases hown2 b ho with h | h
   ·exact hb2 h
   exact (hsr.sr.held b hb).2 ⟨iO, v, by rw [hl1, h]⟩
  have hsr2 : SRel ro N w0.heap.size μ2 ⟨sset sl t (.ar iN μ3.nx k 0 n), (iN, μ3.nx, .arr k e cs) :: H3⟩ a w4 := by
   refine ⟨hsr.size, hs2, fun t' hv' ht' => ?_, hsr.marks.evo E2, hsr.ro.evo E2⟩
   simp only [qcQ] at ht'
   split at ht'
   ·rename_i e'
    subst e'
    cases ht'
    obtain ⟨hlt', hrep⟩ := hsr.slot _ _ ht
    refine ⟨hlt', ?_⟩
    rcases hrep with ⟨l', hl', hrep⟩ | ⟨hd, _⟩
    ·rw [hl1] at hl'
     cases hl'
     refine .inl ⟨l1, h2N, ?_⟩
     rcases hrep with hrep | ⟨b, cap, cur, e', hb', hv', hn', hc', ⟨lo, hi, h1, h1'⟩, hsz'⟩
     ·exact .inl hrep
     subst hb'
     have hb1 := hsr.sr.blk hl1
     have hk := E.keep b hb1 fun ⟨i, u, hx⟩ => by
      obtain ⟨ei, hx⟩ := hcl hx
      exact ei (hsr.sr.inj i iO u v b hx hl1)
     exact .inr ⟨b, cap, cur, e', rfl, hv', hn', hc', ⟨lo, hi, hk.trans h1, h1'⟩, hsz'⟩
    exact absurd hl1 (hd.2 _)
   obtain ⟨hlt', hrep⟩ := hsr.slot t' hv' ht'
   exact ⟨hlt', Rep.evo E2 hsr.sr.ok _ _ hrep⟩
  exact hK μ2 _ _ _ (hq iN μ3.nx hfr) (hsr2.put (Evo.refl w4 μ2) hs2 hN (hr μ2)) (hE.trans E2)
 refine RoundIn.mono (R := fun e w2 => match e with
  | .returned v => next (a.put o.dst v) w2
  | _ => False) (roundIn_of_wpIn (F := qd7 ro) trivial ?_) ?_
 ·refine wpIn_mono (hround l w μc μc _ w hs0 (Evo.refl w μc)) ?_
  rintro e1 a1 w1 ⟨_, _, μ1, s1, ⟨rfl, hg1, hbody⟩, hs1, E1⟩
  have hl1' : μ1.loc id = some (ver, some l) := by
   obtain ⟨l1, hl1, _⟩ := hs1.sr.has id ver _ hg1
   have := E1.loc id ver l1 hl1 (hsc.ok _ _ _ hl)
   rw [hl] at this
   cases this
   exact hl1
  obtain ⟨t1, d1, hb1, hz1, hsn1, hsr2, E2⟩ := hs1.sr.updLoop (st' := .busy) (pend' := none) hg1 hl1'
  refine ⟨_, by simp [Instr.beginRound, qbB hb1, qce hb1, Result.andThen]; rfl, ?_⟩
  have hs2 := hs1.heap E2 hsr2
  refine wpIn_mono (hbody w μc μ1 a1 _ hs2 (E1.trans E2)) ?_
  rintro e3 a3 w3 ⟨_, _, μ3, s3, ⟨hg3, hq3⟩, hs3, E3⟩
  have hl3 : μ3.loc id = some (ver, some l) := by
   obtain ⟨l3, hl3, _⟩ := hs3.sr.has id ver _ hg3
   have := E3.loc id ver l3 hl3 (hsc.ok _ _ _ hl)
   rw [hl] at this
   cases this
   exact hl3
  cases e3 with
  | normal =>
   obtain ⟨t4, d4, hb4, hz4, hsn4, hsr4, E4⟩ := hs3.sr.updLoop (st' := .ready) (pend' := none) hg3 hl3
   refine ⟨.bool true, _, by simp [Instr.endRound, qbB hb4, qce hb4, Result.andThen]; rfl, ?_⟩
   exact fin _ _ _ (.bool true) (.bool true) hsr4 (E3.trans E4) (fun _ => rfl) hq3
  | ret =>
   obtain ⟨t4, d4, hb4, hz4, hsn4, hsr4, E4⟩ := hs3.sr.updLoop (st' := .done) (pend' := some .ret) hg3 hl3
   refine ⟨.bool false, _, by simp [Instr.endRound, qbB hb4, qce hb4, Result.andThen]; rfl, ?_⟩
   exact fin _ _ _ (.bool false) (.bool false) hsr4 (E3.trans E4) (fun _ => rfl) hq3
  | exit i =>
   obtain ⟨t4, d4, hb4, hz4, hsn4, hsr4, E4⟩ := hs3.sr.updLoop (st' := .done) (pend' := some (.exit i)) hg3 hl3
   refine ⟨.bool false, _, by simp [Instr.endRound, qbB hb4, qce hb4, Result.andThen]; rfl, ?_⟩
   exact fin _ _ _ (.bool false) (.bool false) hsr4 (E3.trans E4) (fun _ => rfl) hq3
  | goto l => exact hq3.elim
  | panic ch => exact hq3.elim
  | outgrown => exact hq3.elim
 intro e w2 he
 cases e with
 | returned v => exact he
 | _ => exact he.elim
end
end Go.AW
namespace Go.AW
open Go
theorem qqD {P : Program} {ro : Option Nat} {N : Nat} {o : Oper} {all : Array Oper} {rest : List Oper} {K : AS → Prop} {d : Nat} {aa : Array Operand} {ts : Array TypeId} {f : Operand} {id ver : Nat} {hs : List HV} {sl : List (Nat × HV)} {H : Heap} {t iO v k n : Nat} {e : TypeId} {cs : List HV}
  (h0 : (o.guard, o.dst, o.op) = (none, some d, .call ⟨.value f, aa, ts⟩)) (hf : (⟨sl, (iO, v, .arr k e cs) :: H⟩ : AS).ev f = some (.yl id ver)) (ha : aa.toList.mapM (⟨sl, (iO, v, .arr k e cs) :: H⟩ : AS).ev = some hs) (ht : sget sl t = some (.ar iO v k 0 n)) (hO : hget H iO = none)
  (h : YCall P id ver hs H fun r H' => ∀ iN v2, hget H' iN = none → bops P ro N all rest K ⟨(d, r) :: sset sl t (.ar iN v2 k 0 n), (iN, v2, .arr k e cs) :: H'⟩) : bops P ro N all (o :: rest) K ⟨sl, (iO, v, .arr k e cs) :: H⟩ := by
 obtain ⟨e1, h0⟩ := Prod.mk.inj h0
 obtain ⟨e2, e3⟩ := Prod.mk.inj h0
 refine qtJ e1 fun hN => AOp.yieldH (t := t) (n := n) e3 rfl hN hf ha ht hO (h.mono fun r H' hk iN v2 hi => ?_)
 rw [e2]
 exact qbx (qeR (s := ⟨sset sl t (.ar iN v2 k 0 n), (iN, v2, .arr k e cs) :: H'⟩) d r) (hk iN v2 hi)
end Go.AW
namespace Go.AW
open Go Go.Proofs
abbrev oTx (l : List (List UInt8)) : AObj := .arr 1 9 (eStr.E l)
set_option maxHeartbeats 8000000 in
set_option maxRecDepth 100000 in
theorem qhS {all : List (List UInt8)} {p0 : qaa} {ms L : List (List UInt8)} (h : qbX all p0 ms = some L) : qnw Tryz.prog 147 [] [HV.fptr [slE eStr all] 0, HV.fptr [HV.int .i64 p0.1, HV.int .i64 p0.2.1, slE eFromLabelTo p0.2.2] 0, HV.fptr [slE eStr ms] 0] (L.map fun x => [HV.str x]) := by
 unfold qbX at h
 split at h
 case isFalse => cases h
 rename_i hal
 intro id ver H J Stop K hmn h0 hstep hdone hstop
 refine ACall.of_body Tryz.func147 rfl rfl (Nat.le_of_ble_eq_true rfl) ?_
 unfold Tryz.f147
 dsimp only [qaH, Nat.reduceAdd]
 generalize hFA : HV.fptr [slE eStr all] 0 = FA
 generalize hFM : HV.fptr [slE eStr ms] 0 = FM
 generalize hFG : HV.fptr [HV.int .i64 p0.1, HV.int .i64 p0.2.1, slE eFromLabelTo p0.2.2] 0 = FG
 refine zaa rfl fun K1 hK => ?_
 refine mv rfl rfl ?_
 refine qah (hK _ (AW.to (qa9 (s' := ⟨[(0, .yl id ver), (1, FA), (2, FG), (3, FM), (5, HV.v (.slice none 0 0))], H⟩) (qcA ⟨rfl, rfl, rfl, rfl, rfl, trivial⟩) ?_)))
 clear hK K1
 refine zaa rfl fun K1 hK => ?_
 refine bv rfl (qab ty22 (by rw [← hFA]; rfl) (qan rfl rfl)) ?_
 refine bv rfl (qaI rfl rfl ty22 rfl) ?_
 refine mv rfl rfl ?_
 refine qah (hK _ (AW.to (qa9 (s' := ⟨[(0, .yl id ver), (1, FA), (2, FG), (3, FM), (5, HV.v (.slice none 0 0)), (8, slE eStr all), (9, .int .i64 (all.length : Int)), (10, .int .i64 0)], H⟩) (qcA ⟨rfl, rfl, rfl, rfl, rfl, rfl, rfl, rfl, trivial⟩) ?_)))
 clear hK K1
 have hiO := qfa H
 generalize qgK H = iO0 at hiO
 refine AW.to (qoe iO0 5 1 9 rfl fun v0 => ?_)
 refine zaf ?_
 refine AW.loopS (fun p : Nat × List (List UInt8) × Nat × Nat × Heap => ⟨[(0, .yl id ver), (1, FA), (2, FG), (3, FM), (5, .ar p.2.2.1 p.2.2.2.1 1 0 p.2.1.length), (8, slE eStr all), (9, .int .i64 (all.length : Int)), (10, .int .i64 (p.1 : Int))], (p.2.2.1, p.2.2.2.1, oTx p.2.1) :: p.2.2.2.2⟩)
  (fun p => p.1 ≤ all.length ∧ tkW (qnU p0 ms) (all.drop p.1) p.2.1 = some L ∧ hget p.2.2.2.2 p.2.2.1 = none ∧ J p.2.1.length p.2.2.2.2 ∧ p.2.1.length ≤ p.1) (fun p => all.length - p.1) (0, [], iO0, v0, H) ⟨qaO ⟨rfl, rfl, rfl, rfl, rfl, rfl, rfl, rfl, trivial⟩, qmh⟩ ⟨Nat.zero_le _, h, hiO, h0, Nat.le_refl _⟩ ?_
 clear h0 hiO iO0 v0 h H
 rintro ⟨i, out, iO, v, H⟩ ⟨hi, h, hiO, hj, hlo⟩
 dsimp only at hi h hiO hj hlo ⊢
 have hnxt : IntKind.wrap .i64 ((i : Int) + 1) = ((i + 1 : Nat) : Int) := by rw [w64 (by omega) (by omega)]; omega
 refine zaa rfl fun K1 hK => ?_
 refine bv rfl (qae rfl rfl qaV) ?_
 refine qah (hK _ (AW.to (qa9 (s' := ⟨[(0, .yl id ver), (1, FA), (2, FG), (3, FM), (5, .ar iO v 1 0 out.length), (8, slE eStr all), (9, .int .i64 (all.length : Int)), (10, .int .i64 (i : Int)), (11, .bool (decide ((i : Int) < (all.length : Int))))], (iO, v, oTx out) :: H⟩) (qcA ⟨rfl, rfl, rfl, rfl, rfl, rfl, rfl, rfl, rfl, trivial⟩) ?_)))
 clear hK K1
 refine zam rfl (fun hc => ?_) (fun hc => ?_)
 ·have hc := of_decide_eq_true hc
  have hil : i < all.length := by omega
  have hix : idx all (i : Int) = some all[i] := by rw [qfI, List.getElem?_eq_getElem hil]
  rw [List.drop_eq_getElem_cons hil] at h
  generalize all[i] = w at hix h
  simp only [tkW] at h
  obtain ⟨b, hb, h⟩ := Option.bind_eq_some_iff.1 h
  refine zac ?_
  refine AW.seqGr (fun s' => ∃ (out' : List (List UInt8)) (iN vN : Nat) (H2 : Heap), tkW (qnU p0 ms) (all.drop (i + 1)) out' = some L ∧ hget H2 iN = none ∧ J out'.length H2 ∧ out'.length ≤ i + 1 ∧ AS.le s' ⟨[(0, .yl id ver), (1, FA), (2, FG), (3, FM), (5, .ar iN vN 1 0 out'.length), (8, slE eStr all), (9, .int .i64 (all.length : Int)), (10, .int .i64 (i : Int))], (iN, vN, oTx out') :: H2⟩) ?_ ?_
  ·refine zaf ?_
   refine zaa rfl fun K1 hK => ?_
   refine bv rfl (qaJ ty22 es22 rfl rfl (qaw hix)) ?_
   refine bv rfl (qab ty9 rfl (qaL eStr hix (o := 0) rfl rfl)) ?_
   obtain ⟨f7, hf7⟩ := qne ((iO, v, oTx out) :: H) 7
   refine b_op rfl (qba (fid := f7) (zs := [HV.str []]) (f7 * 1000 + 7) rfl rfl ty9 rfl (fun v7 => ?_))
   refine b_op rfl (qaD (cs := [HV.str w]) (zs := [HV.str w]) rfl rfl rfl ty9 rfl qaY rfl rfl rfl ?_)
   generalize f7 * 1000 + 7 = i7 at hf7
   refine qah (hK _ (AW.to (qa9 (s' := ⟨[(0, .yl id ver), (1, FA), (2, FG), (3, FM), (5, .ar iO v 1 0 out.length), (7, .ptr i7 v7 0), (8, slE eStr all), (9, .int .i64 (all.length : Int)), (10, .int .i64 (i : Int))], (i7, v7, .arr 1 9 [HV.str w]) :: (iO, v, oTx out) :: H⟩) ⟨qaO ⟨rfl, rfl, rfl, rfl, rfl, rfl, rfl, rfl, rfl, trivial⟩, qkz⟩ ?_)))
   clear hK K1
   have hdrop := qe6 (v := v7) (o := .arr 1 9 [HV.str w]) hf7
   have hgO : hget ((i7, v7, .arr 1 9 [HV.str w]) :: (iO, v, oTx out) :: H) iO = some (v, oTx out) := hdrop _ _ qaY
   have hne7 : i7 ≠ iO := fun e => by subst e; rw [qaY] at hf7; cases hf7
   obtain ⟨jw, hjw, hb⟩ := Option.bind_eq_some_iff.1 hb
   refine zad ?_
   refine zaa rfl fun K1 hK => ?_
   have fin : K1 ⟨[(0, .yl id ver), (1, FA), (2, FG), (3, FM), (5, .ar iO v 1 0 out.length), (7, .ptr i7 v7 0), (8, slE eStr all), (9, .int .i64 (all.length : Int)), (10, .int .i64 (i : Int)), (24, .bool b)], (i7, v7, .arr 1 9 [HV.str w]) :: (iO, v, oTx out) :: H⟩ := by
    refine hK _ ?_
    clear hK K1
    refine zae rfl (fun hc => ?_) (fun hc => ?_)
    ·subst hc
     rw [if_pos rfl] at h
     refine AW.exit ?_
     exact .inl ⟨rfl, out, iO, v, H, h, hiO, hj, by omega, qaO ⟨rfl, rfl, rfl, rfl, rfl, rfl, rfl, rfl, trivial⟩, hdrop⟩
    subst hc
    rw [if_neg (by decide)] at h
    obtain ⟨l2, hl2⟩ := qlU h
    refine zac ?_
    refine zaa rfl fun K1 hK => ?_
    refine mv rfl rfl ?_
    refine bv rfl (qar ty9 rfl qaY (qan rfl rfl)) ?_
    refine b_op rfl (qdX rfl rfl (qbV (cs := [HV.str w]) ty22 ty9 rfl rfl rfl rfl rfl) ?_)
    refine b_op rfl (qdh eStr (l := out) (m := [w]) rfl rfl ty22 ty22 ty9 rfl hgO rfl rfl rfl ⟨by simp; omega, by simp only [maxLen, List.length_singleton]; omega⟩ (fun v2 => ?_))
    refine mv rfl rfl ?_
    refine qah (hK _ (AW.to (qa9 (s' := ⟨[(0, .yl id ver), (1, FA), (2, FG), (3, FM), (5, .ar iO v2 1 0 (out ++ [w]).length), (7, .ptr i7 v7 0), (8, slE eStr all), (9, .int .i64 (all.length : Int)), (10, .int .i64 (i : Int))], (i7, v7, .arr 1 9 [HV.str w]) :: (iO, v2, oTx (out ++ [w])) :: H⟩) ⟨qaO ⟨rfl, rfl, rfl, rfl, rfl, rfl, rfl, rfl, rfl, trivial⟩, fun j x hx => ?_⟩ ?_)))
    ·by_cases e7 : j = i7
     ·subst e7
      rw [qaY] at hx
      rw [qaz hne7, qaY]
      exact hx
     rw [qaz e7] at hx
     by_cases eO : j = iO
     ·subst eO
      rw [qaY] at hx ⊢
      exact hx
     rw [qaz eO] at hx
     rw [qaz eO, qaz e7, qaz eO]
     exact hx
    clear hK K1
    have hf7' : hget ((iO, v2, oTx (out ++ [w])) :: H) i7 = none := by
     rw [qaz hne7] at hf7 ⊢
     exact hf7
    refine zaa rfl fun K1 hK => ?_
    refine mv rfl rfl ?_
    refine bv rfl (qar ty9 rfl qaY (qan rfl rfl)) ?_
    refine qbx (s' := ⟨[(0, .yl id ver), (1, FA), (2, FG), (3, FM), (5, .ar iO v2 1 0 (out ++ [w]).length), (8, slE eStr all), (9, .int .i64 (all.length : Int)), (10, .int .i64 (i : Int)), (29, .yl id ver), (30, .str w)], (iO, v2, oTx (out ++ [w])) :: H⟩) ⟨qaO ⟨rfl, rfl, rfl, rfl, rfl, rfl, rfl, rfl, rfl, rfl, trivial⟩, qe6 hf7'⟩ ?_
    refine qqD (t := 5) (n := (out ++ [w]).length) (hs := [HV.str w]) rfl rfl rfl rfl hiO ?_
    refine (hstep out.length [HV.str w] H ?_ hj).mono ?_
    ·rw [List.getElem?_map, hl2, List.append_assoc, List.getElem?_append_right (Nat.le_refl _), Nat.sub_self]
     rfl
    rintro r H2 ⟨bb, rfl, h3, h4⟩ iN v3 hiN
    refine bv rfl (qfu rfl) ?_
    refine qah (hK _ (AW.to (qa9 (s' := ⟨[(0, .yl id ver), (1, FA), (2, FG), (3, FM), (5, .ar iN v3 1 0 (out ++ [w]).length), (8, slE eStr all), (9, .int .i64 (all.length : Int)), (10, .int .i64 (i : Int)), (32, .bool (!bb))], (iN, v3, oTx (out ++ [w])) :: H2⟩) ⟨qaO ⟨rfl, rfl, rfl, rfl, rfl, rfl, rfl, rfl, rfl, trivial⟩, fun _ _ h => h⟩ ?_)))
    clear hK K1
    refine zae rfl (fun hc => ?_) (fun hc => ?_)
    ·have hbb : bb = false := by simpa using hc
     refine AW.to (qa9 (s' := ⟨[], H2⟩) ⟨(fun _ _ h => by cases h), qe6 hiN⟩ ?_)
     refine AW.ret (.inr ⟨rfl, ?_⟩)
     refine And.intro (.inr rfl) ?_
     simp only [go_sem, reduceIte, Nat.reduceEqDiff]
     exact ⟨_, _, Conv.refl _ _, hstop _ (h4 hbb)⟩
    have hbb : bb = true := by simpa using hc
    refine zac (.inl ⟨rfl, out ++ [w], iN, v3, H2, h, hiN, ?_, by rw [List.length_append, List.length_singleton]; omega, qaO ⟨rfl, rfl, rfl, rfl, rfl, rfl, rfl, rfl, trivial⟩, fun _ _ h => h⟩)
    rw [List.length_append]
    exact h3 hbb
   refine bv rfl (qab ty27 (by rw [← hFG]; rfl) (qav rfl (Nat.le_of_ble_eq_true rfl) rfl)) ?_
   refine bv rfl (qab ty22 (by rw [← hFM]; rfl) (qan rfl rfl)) ?_
   refine bv rfl (qar ty9 rfl qaY (qan rfl rfl)) ?_
   refine bv rfl (qar ty9 rfl qaY (qan rfl rfl)) ?_
   refine b_op rfl (qaB rfl rfl rfl rfl (zai (qei hjw)) ?_)
   refine bv rfl (qfu rfl) ?_
   refine mv rfl rfl ?_
   by_cases hj1 : jw = true
   ·subst hj1
    rw [if_neg (by decide)] at hb
    refine b_T rfl rfl rfl rfl rfl (qaf rfl (qas rfl rfl).2 ?_)
    refine b_T rfl rfl rfl rfl rfl (qaf rfl (qgp rfl rfl) ?_)
    have hfr : [HV.ar iO v 1 0 out.length, HV.fn (.func 148) [] [FG, FM, .ptr i7 v7 0]].map (frz 2 ((i7, v7, .arr 1 9 [HV.str w]) :: (iO, v, oTx out) :: H)) = [slE eStr out, HV.fn (.func 148) [] [FG, FM, HV.fptr [HV.str w] 0]] := by
     have e1 := qbw eStr (l := out) hgO fun _ _ => rfl
     have e2 : frz 1 ((i7, v7, .arr 1 9 [HV.str w]) :: (iO, v, oTx out) :: H) (.ptr i7 v7 0) = HV.fptr [HV.str w] 0 := by
      simp only [frz, qaY, if_true, List.map_cons, List.map_nil]
     simp only [List.map_cons, List.map_nil]
     rw [show frz 2 ((i7, v7, .arr 1 9 [HV.str w]) :: (iO, v, oTx out) :: H) (.ar iO v 1 0 out.length) = slE eStr out from e1]
     rw [show frz 2 ((i7, v7, .arr 1 9 [HV.str w]) :: (iO, v, oTx out) :: H) (HV.fn (.func 148) [] [FG, FM, .ptr i7 v7 0]) = HV.fn (.func 148) [] [frz 1 ((i7, v7, .arr 1 9 [HV.str w]) :: (iO, v, oTx out) :: H) FG, frz 1 ((i7, v7, .arr 1 9 [HV.str w]) :: (iO, v, oTx out) :: H) FM, frz 1 ((i7, v7, .arr 1 9 [HV.str w]) :: (iO, v, oTx out) :: H) (.ptr i7 v7 0)] from rfl, e2]
     rw [← hFG, ← hFM]
     rfl
    have hcf := qbu (g1 := 148) (z1 := [FG, FM, HV.fptr [HV.str w] 0]) hb (fun a0 b0 h0 => by rw [← hFG, ← hFM]; exact qf6 h0)
    refine b_T rfl rfl rfl rfl rfl (qaB rfl rfl rfl rfl (Fresh.callD 2 (hcf.fresh trivial rfl) hfr) ?_)
    refine bv rfl (qak rfl rfl rfl) ?_
    refine qbx (s' := ⟨[(0, .yl id ver), (1, FA), (2, FG), (3, FM), (5, .ar iO v 1 0 out.length), (7, .ptr i7 v7 0), (8, slE eStr all), (9, .int .i64 (all.length : Int)), (10, .int .i64 (i : Int)), (24, .bool b)], (i7, v7, .arr 1 9 [HV.str w]) :: (iO, v, oTx out) :: H⟩) ⟨qaO ⟨rfl, rfl, rfl, rfl, rfl, rfl, rfl, rfl, rfl, rfl, trivial⟩, fun _ _ h => h⟩ ?_
    exact qah fin
   obtain rfl : jw = false := by simpa using hj1
   rw [if_pos (by decide)] at hb
   obtain rfl : b = true := (Option.some.inj hb).symm
   refine b_F rfl rfl rfl rfl rfl rfl ?_
   refine b_F rfl rfl rfl rfl rfl rfl ?_
   refine b_F rfl rfl rfl rfl rfl rfl ?_
   refine bv rfl (qaj rfl rfl rfl) ?_
   refine qbx (s' := ⟨[(0, .yl id ver), (1, FA), (2, FG), (3, FM), (5, .ar iO v 1 0 out.length), (7, .ptr i7 v7 0), (8, slE eStr all), (9, .int .i64 (all.length : Int)), (10, .int .i64 (i : Int)), (24, .bool true)], (i7, v7, .arr 1 9 [HV.str w]) :: (iO, v, oTx out) :: H⟩) ⟨qaO ⟨rfl, rfl, rfl, rfl, rfl, rfl, rfl, rfl, rfl, rfl, trivial⟩, fun _ _ h => h⟩ ?_
   exact qah fin
  rintro s' ⟨out', iN, vN, H2, h1, h2, h3, h4, hle⟩
  refine AW.to (qa9 hle ?_)
  refine zab rfl fun K1 hK => ?_
  refine bv rfl (qae rfl rfl qa6) ?_
  rw [hnxt]
  refine mv rfl rfl ?_
  refine qah (hK _ ?_)
  exact ⟨(i + 1, out', iN, vN, H2), ⟨by dsimp only; omega, h1, h2, h3, h4⟩, by dsimp only; omega, ⟨qaO ⟨rfl, rfl, rfl, rfl, rfl, rfl, rfl, rfl, trivial⟩, fun _ _ h => h⟩⟩
 have hc := of_decide_eq_false hc
 have hie : i = all.length := by omega
 subst hie
 rw [List.drop_length] at h
 have h : out = L := Option.some.inj h
 refine AW.exit ?_
 refine ⟨.inl rfl, ?_⟩
 simp only [go_sem, reduceIte, Nat.reduceEqDiff]
 refine ⟨_, _, Conv.refl _ _, hdone _ ?_⟩
 rw [List.length_map, ← h]
 exact hmn _ _ _ hj (qe6 hiO)
abbrev hR (v8 v36 v5 v12 v9 Sn : Nat) (seen : List Bool) (rs : Rws) : Heap := (234008, v8, .arr 1 189 [.ar 234036 v36 1 0 Sn]) :: (234036, v36, .arr 1 4 (eBool.E seen)) :: (234005, v5, .arr 1 151 [.ar 234012 v12 1 0 Sn]) :: (234012, v12, .arr 1 31 (hdr 0 rs)) :: (234009, v9, .arr 1 186 [.fn (.func 251) [] [.ptr 234008 v8 0, .ptr 234005 v5 0, .ptr 234009 v9 0]]) :: qeQ 0 rs
theorem qq1 {v8 v36 v5 v12 v9 Sn : Nat} {seen : List Bool} {rs : Rws} (i : Nat) : hget (hR v8 v36 v5 v12 v9 Sn seen rs) (rid i) = hget (qeQ 0 rs) (rid i) := by
  rw [qaz (by unfold rid; omega), qaz (by unfold rid; omega), qaz (by unfold rid; omega), qaz (by unfold rid; omega), qaz (by unfold rid; omega)]
theorem qsK {v8 v36 v5 v12 v9 Sn : Nat} {seen seen' : List Bool} {rs : Rws} : ∀ id x, hget (hR v8 v36 v5 v12 v9 Sn seen' rs) id = some x → hget ((234036, v36, .arr 1 4 (eBool.E seen')) :: hR v8 v36 v5 v12 v9 Sn seen rs) id = some x := by
  refine qci ⟨rfl, rfl, rfl, rfl, rfl, qe7 _ 0 fun i v' l' hi => ?_⟩
  rw [qaz (by unfold rid; omega), Nat.zero_add, qq1]
  have := qcV 0 hi
  rwa [Nat.zero_add] at this
set_option maxHeartbeats 4000000 in
set_option maxRecDepth 100000 in
theorem qjn {v8 v36 v5 v12 v9 Sn : Nat} {rs : Rws} {nx : Nat → List Int} (hrs : rs.length = Sn) (hnx : ∀ (i v : Nat) (l : List Int), rs[i]? = some (v, l) → l = nx i) (hb : ∀ i, i < Sn → ∀ t ∈ nx i, 0 ≤ t ∧ t < (Sn : Int)) (hl : ∀ i, i < Sn → (nx i).length ≤ 100000) (hS : Sn ≤ 1000) :
    ∀ (n : Nat) (seen : List Bool) (s : Nat), seen.length = Sn → s < Sn → seen.getD s true = false → seen.count false ≤ n →
      ACall Tryz.prog 251 [hI (s : Int), .ptr 234008 v8 0, .ptr 234005 v5 0, .ptr 234009 v9 0] (hR v8 v36 v5 v12 v9 Sn seen rs) (fun r H' => r = HV.tup [] ∧ H' = hR v8 v36 v5 v12 v9 Sn (qcb nx n seen s) rs)
  | 0, seen, s, h1, h2, h3, h4 => by
    have := qcW h3
    omega
  | n + 1, seen, s, h1, h2, h3, h4 => by
    refine ACall.of_body Tryz.func251 rfl rfl (lb rfl) ?_
    unfold Tryz.f251
    dsimp only [qaH, Nat.reduceAdd]
    have hfl : s < rs.length := by omega
    obtain ⟨⟨rv, rl⟩, hrow⟩ : ∃ b, rs[s]? = some b := ⟨_, List.getElem?_eq_getElem hfl⟩
    have hrl := hnx _ _ _ hrow
    have hll : rl.length ≤ 100000 := by rw [hrl]; exact hl s h2
    have hhd : (hdr 0 rs)[(s : Int).toNat * 1]? = some (HV.ar (rid s) rv 1 0 rl.length) := by
      have := qmn 0 hrow
      rw [Nat.zero_add] at this
      rw [Nat.mul_one]
      exact this
    have hrg : ∀ sn : List Bool, hget (hR v8 v36 v5 v12 v9 Sn sn rs) (rid s) = some (rv, .arr 1 3 (eInt.E rl)) := fun sn => by
      rw [qq1]
      have := qcV 0 hrow
      rwa [Nat.zero_add] at this
    refine zaa rfl fun K hK => bv rfl (qar qdM rfl rfl (qan rfl rfl)) (mv rfl rfl (bv rfl (qd2 qdM qkJ rfl rfl ⟨by omega, by omega⟩ rfl) ?_))
    refine b_op rfl (qe3 eBool (l := seen) (j := (s : Int)) (v := true) rfl rfl rfl ty4 rfl rfl rfl ⟨by omega, by omega⟩ ?_)
    refine qah (hK _ (AW.to (qa9 (s' := ⟨[(0, hI (s : Int)), (1, .ptr 234008 v8 0), (2, .ptr 234005 v5 0), (3, .ptr 234009 v9 0)], hR v8 v36 v5 v12 v9 Sn (seen.set s true) rs⟩) ⟨qaO ⟨rfl, rfl, rfl, rfl, trivial⟩, qsK⟩ ?_)))
    refine zaa rfl fun K hK => bv rfl (qar qcK rfl rfl (qan rfl rfl)) (mv rfl rfl (bv rfl (qd2 qcK qnS rfl rfl ⟨by omega, by omega⟩ rfl) (bv rfl (qar ty31 rfl rfl (qan rfl hhd)) (bv rfl (qhv rfl rfl ty31 rfl (hrg _)) (mv rfl rfl ?_)))))
    refine qah (hK _ (AW.to (qa9 (s' := ⟨[(1, .ptr 234008 v8 0), (2, .ptr 234005 v5 0), (3, .ptr 234009 v9 0), (13, .ar (rid s) rv 1 0 rl.length), (14, hI (rl.length : Int)), (15, hI 0)], hR v8 v36 v5 v12 v9 Sn (qfl nx n seen s 0) rs⟩) ⟨qaO ⟨rfl, rfl, rfl, rfl, rfl, rfl, trivial⟩, fun _ _ h => h⟩ ?_)))
    refine zaf ?_
    refine AW.loopS (fun i : Nat => ⟨[(1, .ptr 234008 v8 0), (2, .ptr 234005 v5 0), (3, .ptr 234009 v9 0), (13, .ar (rid s) rv 1 0 rl.length), (14, hI (rl.length : Int)), (15, hI (i : Int))], hR v8 v36 v5 v12 v9 Sn (qfl nx n seen s i) rs⟩)
      (fun i => i ≤ rl.length) (fun i => rl.length - i) 0 (AS.le_refl _) (Nat.zero_le _) ?_
    intro i hi
    have hsl := qot nx n seen s i
    have hsc := qlZ (nx := nx) (i := i) h3 h4
    have hsk : ∀ (h : i < rl.length), qfl nx n seen s (i + 1) = if (qfl nx n seen s i).getD rl[i].toNat true = true then qfl nx n seen s i else qcb nx n (qfl nx n seen s i) rl[i].toNat := by
      subst hrl
      exact fun h => qnC nx n seen s h
    have hbt : ∀ t ∈ rl, 0 ≤ t ∧ t < (Sn : Int) := by
      rw [hrl]; exact hb s h2
    have hfin : i = rl.length → qfl nx n seen s i = qcb nx (n + 1) seen s := by
      rintro rfl
      rw [hrl]
      unfold qfl
      rw [List.take_length]
      rfl
    generalize qfl nx n seen s i = sn at hsl hsc hsk hfin
    refine zaa rfl fun K hK => bv rfl (qae rfl rfl qaV) ?_
    refine qah (hK _ (AW.to (qa9 (s' := ⟨[(1, .ptr 234008 v8 0), (2, .ptr 234005 v5 0), (3, .ptr 234009 v9 0), (13, .ar (rid s) rv 1 0 rl.length), (14, hI (rl.length : Int)), (15, hI (i : Int)), (16, .bool (decide ((i : Int) < (rl.length : Int))))], hR v8 v36 v5 v12 v9 Sn sn rs⟩) ⟨qaO ⟨rfl, rfl, rfl, rfl, rfl, rfl, rfl, trivial⟩, fun _ _ h => h⟩ ?_)))
    refine zam rfl (fun hc => ?_) (fun hc => ?_)
    · have hc := of_decide_eq_true hc
      have hil : i < rl.length := by omega
      have hsk := hsk hil
      obtain ⟨t0, t1⟩ := hbt _ (List.getElem_mem hil)
      have hidx : idx rl (i : Int) = some rl[i] := by rw [qfI, List.getElem?_eq_getElem hil]
      have htl : rl[i].toNat < sn.length := by omega
      have hidb : idx sn rl[i] = some (sn.getD rl[i].toNat true) := by
        unfold idx
        rw [if_pos t0, List.getElem?_eq_getElem htl, List.getD_eq_getElem?_getD, List.getElem?_eq_getElem htl]
        rfl
      generalize rl[i] = tt at t0 t1 hidx hidb hsk htl
      refine zac ?_
      refine zad (zaf ?_)
      refine zaa rfl fun K hK => bv rfl (qd2 ty31 es31 rfl rfl (qaw hidx) (hrg _)) (bv rfl (qar ty3 rfl (hrg _) (qaL eInt hidx (o := 0) rfl rfl)) (mv rfl rfl ?_))
      refine qah (hK _ (AW.to (qa9 (s' := ⟨[(1, .ptr 234008 v8 0), (2, .ptr 234005 v5 0), (3, .ptr 234009 v9 0), (6, hI tt), (13, .ar (rid s) rv 1 0 rl.length), (14, hI (rl.length : Int)), (15, hI (i : Int))], hR v8 v36 v5 v12 v9 Sn sn rs⟩) ⟨qaO ⟨rfl, rfl, rfl, rfl, rfl, rfl, rfl, trivial⟩, fun _ _ h => h⟩ ?_)))
      refine zaa rfl fun K hK => bv rfl (qar qdM rfl rfl (qan rfl rfl)) (mv rfl rfl (bv rfl (qd2 qdM qkJ rfl rfl ⟨t0, t1⟩ rfl) (bv rfl (qar ty4 rfl rfl (qaL eBool hidb (o := 0) rfl rfl)) (bv rfl (qfu rfl) ?_))))
      refine qah (hK _ (AW.to (qa9 (s' := ⟨[(1, .ptr 234008 v8 0), (2, .ptr 234005 v5 0), (3, .ptr 234009 v9 0), (6, hI tt), (13, .ar (rid s) rv 1 0 rl.length), (14, hI (rl.length : Int)), (15, hI (i : Int)), (23, .bool (!(sn.getD tt.toNat true)))], hR v8 v36 v5 v12 v9 Sn sn rs⟩) ⟨qaO ⟨rfl, rfl, rfl, rfl, rfl, rfl, rfl, rfl, trivial⟩, fun _ _ h => h⟩ ?_)))
      have hnxt : IntKind.wrap .i64 ((i : Int) + 1) = ((i + 1 : Nat) : Int) := by rw [w64 (by omega) (by omega)]; omega
      refine zae rfl (fun hc => ?_) (fun hc => ?_)
      · have hc' : sn.getD tt.toNat true = false := by simpa using hc
        rw [hc', if_neg (by decide)] at hsk
        have hcall := qjn (v8 := v8) (v36 := v36) (v5 := v5) (v12 := v12) (v9 := v9) hrs hnx hb hl hS n sn tt.toNat (by omega) (by omega) hc' hsc
        rw [← hsk, show ((tt.toNat : Nat) : Int) = tt by omega] at hcall
        refine zab rfl fun K hK => bv rfl (qar qob rfl rfl (qan rfl rfl)) (mv rfl rfl ?_)
        refine b_op rfl (qfD rfl rfl rfl rfl (hcall.mono fun r H' he => ?_))
        obtain ⟨rfl, rfl⟩ := he
        refine qah (hK _ ?_)
        refine zab rfl fun K hK => bv rfl (qae rfl rfl qa6) (mv rfl rfl ?_)
        refine qah (hK _ ?_)
        exact ⟨i + 1, by omega, by omega, ⟨qaO ⟨rfl, rfl, rfl, rfl, rfl, by rw [← hnxt]; rfl, trivial⟩, fun _ _ h => h⟩⟩
      have hc' : sn.getD tt.toNat true = true := by simpa using hc
      rw [hc', if_pos rfl] at hsk
      refine zac ?_
      refine zab rfl fun K hK => bv rfl (qae rfl rfl qa6) (mv rfl rfl ?_)
      refine qah (hK _ ?_)
      exact ⟨i + 1, by omega, by omega, ⟨qaO ⟨rfl, rfl, rfl, rfl, rfl, by rw [← hnxt]; rfl, trivial⟩, fun id x h => by rw [hsk] at h; exact h⟩⟩
    have hc := of_decide_eq_false hc
    have hie : i = rl.length := by omega
    refine AW.exit ?_
    exact ⟨.inl rfl, ⟨_, _, Conv.refl _ _, rfl, by rw [hfin hie]⟩⟩
abbrev hN (v5 v12 Sn : Nat) (hd : List HV) (rs : Rws) : Heap := (234005, v5, .arr 1 151 [.ar 234012 v12 1 0 Sn]) :: (234012, v12, .arr 1 31 hd) :: qeQ 0 rs
theorem qq2 {v5 v12 Sn : Nat} {hd : List HV} {rs : Rws} (i : Nat) : hget (hN v5 v12 Sn hd rs) (rid i) = hget (qeQ 0 rs) (rid i) := by
  rw [qaz (by unfold rid; omega), qaz (by unfold rid; omega)]
def valR (v7 v12 v' : Nat) (n : Nat) (e : qam) (rv : Nat) (l : List Int) : Nat → HV
  | 0 | 3 => HV.ar 234012 v12 1 0 n
  | 1 | 4 => HV.ptr 234007 v7 0
  | 2 | 5 => hI e.1
  | 6 => HV.ptr 234012 v12 (e.1.toNat * 1)
  | 7 => HV.ar (rid e.1.toNat) rv 1 0 l.length
  | 8 => HV.ptr 234007 v7 2
  | 9 => hI e.2.2
  | 10 => HV.sl 1 1 [hI e.2.2]
  | _ => HV.ar (rid e.1.toNat) v' 1 0 (l ++ [e.2.2]).length
abbrev hpR (v5 v7 v12 Sn : Nat) (e : qam) (hd : List HV) (rs' : Rws) : Heap := (234007, v7, .arr 3 128 (qa4 e)) :: hN v5 v12 Sn hd rs'
theorem qml {v5 v7 v12 Sn : Nat} {e : qam} {hd : List HV} {rs : Rws} (i : Nat) : hget (hpR v5 v7 v12 Sn e hd rs) (rid i) = hget (qeQ 0 rs) (rid i) := by
  rw [qaz (by unfold rid; omega), qq2]
structure InvR (base : List (Nat × HV)) (val : Nat → Nat → HV) (H0 : Heap) (H1 : Nat → Heap) (v' : Nat) (L : List Nat) (s : AS) : Prop where
  base : ∀ p ∈ base, sget s.slots p.1 = some p.2
  val : ∀ k ∈ L, k < 12 → sget s.slots (20 + k) = some (val v' k)
  heap : ∀ id x, hget (if 11 ∈ L then H1 v' else H0) id = some x → hget s.heap id = some x
theorem InvR.put {base : List (Nat × HV)} {val : Nat → Nat → HV} {H0 : Heap} {H1 : Nat → Heap} {v' : Nat} {L : List Nat} {s : AS} (h : InvR base val H0 H1 v' L s) (hb : ∀ p ∈ base, p.1 < 20) {i : Nat} (hi : i ≠ 11) {hv : HV} (hval : val v' i = hv) : InvR base val H0 H1 v' (i :: L) ⟨(20 + i, hv) :: s.slots, s.heap⟩ where
  base := fun p hp => by
    have := hb p hp
    show sget ((20 + i, hv) :: s.slots) p.1 = _
    simp only [sget]
    rw [if_neg (by omega)]
    exact h.base p hp
  val := fun k hk h12 => by
    show sget ((20 + i, hv) :: s.slots) (20 + k) = _
    simp only [sget]
    by_cases e : k = i
    · subst e
      rw [if_pos rfl, hval]
    rw [if_neg (by omega)]
    rcases List.mem_cons.1 hk with h1 | h1
    · exact absurd h1 e
    exact h.val k h1 h12
  heap := fun id x hx => by
    refine h.heap id x ?_
    have : (11 ∈ i :: L) ↔ 11 ∈ L := by
      rw [List.mem_cons]
      exact ⟨fun h => h.elim (fun e => absurd e.symm hi) (fun h => h), .inr⟩
    by_cases h11 : 11 ∈ L
    · rw [if_pos (this.2 h11)] at hx
      rw [if_pos h11]; exact hx
    rw [if_neg (fun h => h11 (this.1 h))] at hx
    rw [if_neg h11]; exact hx
theorem qnO (E : List qam) {k : Nat} (h : k < E.length) (i : Nat) : qer (E.take (k + 1)) i = qer (E.take k) i ++ if E[k].1 = (i : Int) then [E[k].2.2] else [] := by
  unfold qer
  rw [← List.take_append_getElem h, List.filter_append, List.map_append]
  congr 1
  by_cases e : E[k].1 = (i : Int)
  · rw [if_pos e, List.filter_cons, if_pos (by simpa using e)]; rfl
  rw [if_neg e, List.filter_cons, if_neg (by simpa using e)]; rfl
set_option maxHeartbeats 8000000 in
set_option maxRecDepth 100000 in
theorem qg3 {p0 : qaa} {p1 : Int} {r : List Bool} (h : qcI p0 p1 = some r) : Pure Tryz.prog 234 [gA p0, hI p1] (· = slE eBool r) := by
  unfold qcI at h
  by_cases hok : qoD p0 p1
  case neg => rw [if_neg hok] at h; cases h
  rw [if_pos hok] at h
  obtain rfl := oi h
  obtain ⟨L0, SS, E⟩ := p0
  obtain ⟨⟨hs0, hs1⟩, hE, ⟨h0, h1⟩, hed⟩ := hok
  simp only at hs0 hs1 hE h0 h1 hed ⊢
  obtain ⟨Sn, rfl⟩ := Int.eq_ofNat_of_zero_le hs0
  obtain ⟨sn, rfl⟩ := Int.eq_ofNat_of_zero_le h0
  refine zaj Tryz.func234 rfl rfl (lb rfl) fun hf => ?_
  clear hf hs0 h0
  unfold Tryz.f234
  dsimp only [qaH, Nat.reduceAdd]
  refine zaa rfl fun K hK => b_op rfl (qa5 rfl rfl rfl ?_)
  refine mv rfl rfl ?_
  let P1 : ASf := fun t H => ⟨(1, hI (sn : Int)) :: (2, .fptr [hI L0, hI (Sn : Int), slE eFromLabelTo E] 0) :: t, H⟩
  refine bf hK (P1 [] []) ?_
  refine zaa rfl fun K hK => bv rfl (qac qcp rfl) (bv rfl (qab ty3 rfl (qan rfl rfl)) ?_)
  refine b_op rfl (qfC (fid := 234) (encM fun _ : Unit => HV.v (.slice none 0 0)) () 234012 rfl rfl qcK rfl rfl ty31 rfl rfl (show 0 ≤ (Sn : Int) ∧ (Sn : Int) ≤ (Sn : Int) ∧ (Sn : Int) * ((24 : Nat) : Int) ≤ 281474976710656 by omega) (fun v12 => ?_))
  refine b_op rfl (qba (fid := 234) (zs := [.v (.slice none 0 0)]) 234005 rfl rfl qcK rfl (fun v5 => ?_))
  refine b_op rfl (qaD (cs := [.ar 234012 v12 1 0 (List.replicate (Sn : Int).toNat ()).length]) (zs := [.ar 234012 v12 1 0 (List.replicate (Sn : Int).toNat ()).length]) rfl rfl rfl qcK rfl rfl rfl rfl rfl ?_)
  refine bf hK (P1 [(5, .ptr 234005 v5 0)] [(234005, v5, .arr 1 151 [.ar 234012 v12 1 0 (List.replicate (Sn : Int).toNat ()).length]), (234012, v12, .arr 1 31 ((List.replicate (Sn : Int).toNat ()).map fun _ => HV.v (.slice none 0 0)))]) ?_
  simp only [Int.toNat_natCast, List.length_replicate, List.map_replicate]
  refine AW.to (qoc 234012 v12 31 [(234005, v5, .arr 1 151 [.ar 234012 v12 1 0 Sn])] Sn (fun i => by unfold rid; omega) (fun i => by rw [qaz (by unfold rid; omega)]; rfl) rfl Sn [] (by simp) (fun i v l hi => by simp at hi) (fun id x hx => qci (l' := [(234012, v12, .arr 1 31 (List.replicate Sn (HV.v (.slice none 0 0)))), (234005, v5, .arr 1 151 [.ar 234012 v12 1 0 Sn])]) ⟨rfl, rfl, trivial⟩ id x hx) fun rs0 hrl0 hrs0 => ?_)
  refine AW.to (qa9 (s' := ⟨[(1, hI (sn : Int)), (2, .fptr [hI L0, hI (Sn : Int), slE eFromLabelTo E] 0), (5, .ptr 234005 v5 0)], hN v5 v12 Sn (hdr 0 rs0) rs0⟩) ⟨qaO ⟨rfl, rfl, rfl, trivial⟩, qci ⟨rfl, rfl, qe7 _ 0 fun i v l hi => ?_⟩⟩ ?_)
  · rw [Nat.zero_add]
    show hget ((234012, v12, .arr 1 31 (hdr 0 rs0)) :: ([(234005, v5, .arr 1 151 [.ar 234012 v12 1 0 Sn])] ++ qeQ 0 rs0)) (rid i) = _
    rw [qaz (by unfold rid; omega), List.singleton_append, qaz (by unfold rid; omega)]
    have := qcV 0 hi
    rwa [Nat.zero_add] at this
  refine zad ?_
  refine zaa rfl fun K hK => bv rfl (qac qbi rfl) (bv rfl (qab ty25 rfl (qan rfl rfl)) (bv rfl (qaI rfl rfl ty25 rfl) (mv rfl rfl ?_)))
  refine qah (hK _ (AW.to (qa9 (s' := ⟨[(1, hI (sn : Int)), (2, .fptr [hI L0, hI (Sn : Int), slE eFromLabelTo E] 0), (5, .ptr 234005 v5 0), (14, slE eFromLabelTo E), (15, hI (E.length : Int)), (16, hI 0)], hN v5 v12 Sn (hdr 0 rs0) rs0⟩) ⟨qaO ⟨rfl, rfl, rfl, rfl, rfl, rfl, trivial⟩, fun _ _ h => h⟩ ?_)))
  refine zaf ?_
  refine AW.loopS (fun a : Nat × Rws => ⟨[(1, hI (sn : Int)), (2, .fptr [hI L0, hI (Sn : Int), slE eFromLabelTo E] 0), (5, .ptr 234005 v5 0), (14, slE eFromLabelTo E), (15, hI (E.length : Int)), (16, hI (a.1 : Int))], hN v5 v12 Sn (hdr 0 a.2) a.2⟩)
    (fun a => a.1 ≤ E.length ∧ a.2.length = Sn ∧ ∀ (i v : Nat) (l : List Int), a.2[i]? = some (v, l) → l = qer (E.take a.1) i ∧ l.length ≤ a.1) (fun a => E.length - a.1) (0, rs0) ⟨qaO ⟨rfl, rfl, rfl, rfl, rfl, rfl, trivial⟩, fun _ _ h => h⟩ ⟨Nat.zero_le _, hrl0, fun i v l hi => by rw [hrs0 i v l hi]; exact ⟨rfl, Nat.le_refl _⟩⟩ ?_
  clear hrl0 hrs0 rs0
  rintro ⟨k, rs⟩ ⟨hk, hrs, hrw⟩
  simp only at hk hrs hrw
  refine zaa rfl fun K hK => bv rfl (qae rfl rfl qaV) ?_
  refine qah (hK _ (AW.to (qa9 (s' := ⟨[(1, hI (sn : Int)), (2, .fptr [hI L0, hI (Sn : Int), slE eFromLabelTo E] 0), (5, .ptr 234005 v5 0), (14, slE eFromLabelTo E), (15, hI (E.length : Int)), (16, hI (k : Int)), (17, .bool (decide ((k : Int) < (E.length : Int))))], hN v5 v12 Sn (hdr 0 rs) rs⟩) ⟨qaO ⟨rfl, rfl, rfl, rfl, rfl, rfl, rfl, trivial⟩, fun _ _ h => h⟩ ?_)))
  refine zam rfl (fun hc => ?_) (fun hc => ?_)
  · have hc := of_decide_eq_true hc
    have hkl : k < E.length := by omega
    have hnk := qnO E hkl
    obtain ⟨⟨he1, he2⟩, ⟨he3, he4⟩⟩ := hed _ (List.getElem_mem hkl)
    have hidx : idx E (k : Int) = some E[k] := by rw [qfI, List.getElem?_eq_getElem hkl]
    generalize E[k] = e at hnk he1 he2 he3 he4 hidx
    have hfl0 : e.1.toNat < rs.length := by omega
    obtain ⟨⟨rv, l⟩, hrow⟩ : ∃ b, rs[e.1.toNat]? = some b := ⟨_, List.getElem?_eq_getElem hfl0⟩
    obtain ⟨hlk, hlen⟩ := hrw _ _ _ hrow
    refine zac ?_
    refine zad (zaf ?_)
    refine zaa rfl fun K hK => bv rfl (qaJ ty25 es25 rfl rfl (qaw hidx)) (bv rfl (qab qcN rfl (qlm eFromLabelTo hidx rfl rfl)) ?_)
    refine b_op rfl (qba (fid := 234) (zs := [hI 0, hI 0, hI 0]) 234007 rfl rfl qcN rfl (fun v7 => ?_))
    refine b_op rfl (qaD (cs := qa4 e) (zs := qa4 e) rfl rfl rfl qcN rfl rfl rfl rfl rfl ?_)
    refine qah (hK _ (AW.to (qa9 (s' := ⟨[(1, hI (sn : Int)), (2, .fptr [hI L0, hI (Sn : Int), slE eFromLabelTo E] 0), (5, .ptr 234005 v5 0), (7, .ptr 234007 v7 0), (14, slE eFromLabelTo E), (15, hI (E.length : Int)), (16, hI (k : Int))], hpR v5 v7 v12 Sn e (hdr 0 rs) rs⟩) ⟨qaO ⟨rfl, rfl, rfl, rfl, rfl, rfl, rfl, trivial⟩, qlj⟩ ?_)))
    refine AW.dl follows fun K hK F hF => ?_
    refine l_go (L' := []) hF rfl (s' := ⟨[(1, hI (sn : Int)), (2, .fptr [hI L0, hI (Sn : Int), slE eFromLabelTo E] 0), (5, .ptr 234005 v5 0), (7, .ptr 234007 v7 0), (14, slE eFromLabelTo E), (15, hI (E.length : Int)), (16, hI (k : Int))], hpR v5 v7 v12 Sn e (hdr 0 rs) rs⟩) ?_ ⟨qaO ⟨rfl, rfl, rfl, rfl, rfl, rfl, rfl, trivial⟩, fun _ _ h => h⟩
    have hfin : ∀ v', F [0, 1, 2, 3, 4, 5, 6, 7, 8, 9, 10, 11] ⟨(20, .ar 234012 v12 1 0 Sn) :: (22, hI e.1) :: (31, .ar (rid e.1.toNat) v' 1 0 (l ++ [e.2.2]).length) :: [(1, hI (sn : Int)), (2, .fptr [hI L0, hI (Sn : Int), slE eFromLabelTo E] 0), (5, .ptr 234005 v5 0), (7, .ptr 234007 v7 0), (14, slE eFromLabelTo E), (15, hI (E.length : Int)), (16, hI (k : Int))], hpR v5 v7 v12 Sn e (hdr 0 rs) (rs.set e.1.toNat (v', l ++ [e.2.2]))⟩ := by
      intro v'
      have hdone : F [0, 1, 2, 3, 4, 5, 6, 7, 8, 9, 10, 11, 12, 13] ⟨[(1, hI (sn : Int)), (2, .fptr [hI L0, hI (Sn : Int), slE eFromLabelTo E] 0), (5, .ptr 234005 v5 0), (7, .ptr 234007 v7 0), (14, slE eFromLabelTo E), (15, hI (E.length : Int)), (16, hI (k : Int))], hpR v5 v7 v12 Sn e (hdr 0 (rs.set e.1.toNat (v', l ++ [e.2.2]))) (rs.set e.1.toNat (v', l ++ [e.2.2]))⟩ := by
        refine qpc hF rfl rfl (hK _ ?_)
        clear hF F hK K
        refine zab rfl fun K hK => bv rfl (qae rfl rfl qa6) (mv rfl rfl ?_)
        refine qah (hK _ ?_)
        have hnxt : IntKind.wrap .i64 ((k : Int) + 1) = ((k + 1 : Nat) : Int) := by rw [w64 (by omega) (by omega)]; omega
        refine ⟨(k + 1, rs.set e.1.toNat (v', l ++ [e.2.2])), ⟨by simp only; omega, by simp only [List.length_set]; exact hrs, ?_⟩, by simp only; omega, ⟨qaO ⟨rfl, rfl, rfl, rfl, rfl, by rw [← hnxt]; rfl, trivial⟩, fun id x hx => ?_⟩⟩
        · intro i v m hi
          simp only at hi ⊢
          rw [hnk]
          by_cases ei : e.1.toNat = i
          · subst ei
            rw [List.getElem?_set_self hfl0] at hi
            cases hi
            rw [if_pos (by omega), ← hlk]
            exact ⟨rfl, by simp; omega⟩
          rw [List.getElem?_set_ne ei] at hi
          obtain ⟨q1, q2⟩ := hrw _ _ _ hi
          rw [if_neg (by omega), List.append_nil]
          exact ⟨q1, by omega⟩
        show hget (hpR v5 v7 v12 Sn e _ _) id = some x
        by_cases j7 : id = 234007
        · subst j7
          have hno : hget (hN v5 v12 Sn (hdr 0 (rs.set e.1.toNat (v', l ++ [e.2.2]))) (rs.set e.1.toNat (v', l ++ [e.2.2]))) 234007 = none := by
            rw [qaz (by decide), qaz (by decide)]
            exact qhC _ _ fun i _ => by unfold rid; omega
          rw [hno] at hx
          cases hx
        rw [qaz j7]; exact hx
      have hj : 0 ≤ e.1 ∧ e.1 < (Sn : Int) := ⟨he1, he2⟩
      have hj2 : 0 ≤ e.1 ∧ e.1 < ((hdr 0 rs).length : Int) := by rw [qhf]; omega
      have hst : F [12, 0, 1, 2, 3, 4, 5, 6, 7, 8, 9, 10, 11] ⟨(32, .ptr 234012 v12 (e.1.toNat * 1)) :: (20, .ar 234012 v12 1 0 Sn) :: (22, hI e.1) :: (31, .ar (rid e.1.toNat) v' 1 0 (l ++ [e.2.2]).length) :: [(1, hI (sn : Int)), (2, .fptr [hI L0, hI (Sn : Int), slE eFromLabelTo E] 0), (5, .ptr 234005 v5 0), (7, .ptr 234007 v7 0), (14, slE eFromLabelTo E), (15, hI (E.length : Int)), (16, hI (k : Int))], hpR v5 v7 v12 Sn e (hdr 0 rs) (rs.set e.1.toNat (v', l ++ [e.2.2]))⟩ := by
        refine qll hF rfl [13] rfl rfl ⟨?_, trivial⟩
        refine l_op rfl rfl rfl (qe3 eHd (l := hdr 0 rs) (j := e.1) (v := HV.ar (rid e.1.toNat) v' 1 0 (l ++ [e.2.2]).length) rfl rfl rfl ty31 rfl rfl rfl hj2 (qah ?_))
        refine l_go (L' := [0, 1, 2, 3, 4, 5, 6, 7, 8, 9, 10, 11, 12, 13]) hF rfl hdone ⟨qaO ⟨rfl, rfl, rfl, rfl, rfl, rfl, rfl, trivial⟩, ?_⟩
        have eh : hdr 0 (rs.set e.1.toNat (v', l ++ [e.2.2])) = (hdr 0 rs).set e.1.toNat (HV.ar (rid e.1.toNat) v' 1 0 (l ++ [e.2.2]).length) := by rw [qpi, Nat.zero_add]
        rw [eh]
        refine qci ⟨rfl, rfl, rfl, qe7 _ 0 fun i v m hi => ?_⟩
        show hget ((234012, v12, _) :: hpR v5 v7 v12 Sn e (hdr 0 rs) (rs.set e.1.toNat (v', l ++ [e.2.2]))) _ = _
        rw [Nat.zero_add, qaz (by unfold rid; omega), qml]
        have := qcV 0 hi
        rwa [Nat.zero_add] at this
      exact qhB (i := 12) hF rfl rfl rfl (qd2 qcK qnS rfl rfl hj rfl) hst
    have hlen : l.length ≤ 100000 := by omega
    have hS : Sn ≤ 1000 := by omega
    have hfl : e.1.toNat < rs.length := (List.getElem?_eq_some_iff.1 hrow).1
    have hhd : (hdr 0 rs)[e.1.toNat * 1]? = some (HV.ar (rid e.1.toNat) rv 1 0 l.length) := by
      have := qmn 0 hrow
      rw [Nat.zero_add] at this
      rw [Nat.mul_one]
      exact this
    have hinv := qrL (F := F) hF rfl 12 (by decide) rfl (fun L s => ∃ v', InvR [(1, hI (sn : Int)), (2, .fptr [hI L0, hI (Sn : Int), slE eFromLabelTo E] 0), (5, .ptr 234005 v5 0), (7, .ptr 234007 v7 0), (14, slE eFromLabelTo E), (15, hI (E.length : Int)), (16, hI (k : Int))] (fun v' k => valR v7 v12 v' Sn e rv l k) (hpR v5 v7 v12 Sn e (hdr 0 rs) rs) (fun v' => hpR v5 v7 v12 Sn e (hdr 0 rs) (rs.set e.1.toNat (v', l ++ [e.2.2]))) v' L s) ?_ ?_ 12 [] ⟨[(1, hI (sn : Int)), (2, .fptr [hI L0, hI (Sn : Int), slE eFromLabelTo E] 0), (5, .ptr 234005 v5 0), (7, .ptr 234007 v7 0), (14, slE eFromLabelTo E), (15, hI (E.length : Int)), (16, hI (k : Int))], hpR v5 v7 v12 Sn e (hdr 0 rs) rs⟩ ⟨0, ⟨?_, (fun k hk => by cases hk), fun id x h => by rw [if_neg (by simp)] at h; exact h⟩⟩ (fun k hk => by cases hk) List.nodup_nil rfl
    · exact hinv
    · -- each operation
      rintro L s i ⟨v', hIq⟩ hi hiL hdeps
      have hb20 : ∀ p ∈ ([(1, hI (sn : Int)), (2, .fptr [hI L0, hI (Sn : Int), slE eFromLabelTo E] 0), (5, .ptr 234005 v5 0), (7, .ptr 234007 v7 0), (14, slE eFromLabelTo E), (15, hI (E.length : Int)), (16, hI (k : Int))] : List (Nat × HV)), p.1 < 20 := by
        intro p hp
        simp only [List.mem_cons, List.not_mem_nil, or_false] at hp
        rcases hp with rfl | rfl | rfl | rfl | rfl | rfl | rfl <;> (dsimp only; omega)
      have h5 : sget s.slots 5 = some (HV.ptr 234005 v5 0) := hIq.base (5, _) (by simp)
      have h7 : sget s.slots 7 = some (HV.ptr 234007 v7 0) := hIq.base (7, _) (by simp)
      have g5 : hget s.heap 234005 = some (v5, .arr 1 151 [.ar 234012 v12 1 0 Sn]) := by
        refine hIq.heap _ _ ?_
        split <;> rfl
      have g12 : hget s.heap 234012 = some (v12, .arr 1 31 (hdr 0 rs)) := by
        refine hIq.heap _ _ ?_
        split <;> rfl
      have g7 : hget s.heap 234007 = some (v7, .arr 3 128 (qa4 e)) := by
        refine hIq.heap _ _ ?_
        split <;> rfl
      have val := hIq.val
      match i, hi with
      | 0, _ => exact l_op rfl rfl rfl (qej rfl (qar qcK h5 g5 (qan rfl rfl)) (qah ⟨v', hIq.put hb20 (by decide) rfl⟩))
      | 1, _ => exact l_op rfl rfl rfl (qej rfl (qao qcC h7 g7) (qah ⟨v', hIq.put hb20 (by decide) rfl⟩))
      | 2, _ =>
        have q := val 1 (hdeps 1 (by decide)) (by decide)
        exact l_op rfl rfl rfl (qej rfl (qar ty3 q g7 (qan rfl rfl)) (qah ⟨v', hIq.put hb20 (by decide) rfl⟩))
      | 3, _ => exact l_op rfl rfl rfl (qej rfl (qar qcK h5 g5 (qan rfl rfl)) (qah ⟨v', hIq.put hb20 (by decide) rfl⟩))
      | 4, _ => exact l_op rfl rfl rfl (qej rfl (qao qcC h7 g7) (qah ⟨v', hIq.put hb20 (by decide) rfl⟩))
      | 5, _ =>
        have q := val 4 (hdeps 4 (by decide)) (by decide)
        exact l_op rfl rfl rfl (qej rfl (qar ty3 q g7 (qan rfl rfl)) (qah ⟨v', hIq.put hb20 (by decide) rfl⟩))
      | 6, _ =>
        have q := val 3 (hdeps 3 (by decide)) (by decide)
        have q2 := val 5 (hdeps 5 (by decide)) (by decide)
        exact l_op rfl rfl rfl (qej rfl (qd2 qcK qnS q q2 ⟨he1, by omega⟩ g12) (qah ⟨v', hIq.put hb20 (by decide) rfl⟩))
      | 7, _ =>
        have q := val 6 (hdeps 6 (by decide)) (by decide)
        exact l_op rfl rfl rfl (qej rfl (qar ty31 q g12 (qan rfl hhd)) (qah ⟨v', hIq.put hb20 (by decide) rfl⟩))
      | 8, _ => exact l_op rfl rfl rfl (qej rfl (qao qdZ h7 g7) (qah ⟨v', hIq.put hb20 (by decide) rfl⟩))
      | 9, _ =>
        have q := val 8 (hdeps 8 (by decide)) (by decide)
        exact l_op rfl rfl rfl (qej rfl (qar ty3 q g7 (qan rfl rfl)) (qah ⟨v', hIq.put hb20 (by decide) rfl⟩))
      | 10, _ =>
        have q := val 9 (hdeps 9 (by decide)) (by decide)
        have q' : s.ev (.tmp 29) = some (hI e.2.2) := q
        exact l_op rfl rfl rfl (qoW rfl rfl (qbV (cs := [hI e.2.2]) (qs := [(0, hI e.2.2)]) ty31 ty3 rfl (by simp only [qdq, List.mapM_cons, List.mapM_nil, q']; rfl) rfl rfl rfl) (qah ⟨v', hIq.put hb20 (by decide) rfl⟩))
      | 11, _ =>
        have q := val 7 (hdeps 7 (by decide)) (by decide)
        have q2 := val 10 (hdeps 10 (by decide)) (by decide)
        have hr0 : hget s.heap (rid e.1.toNat) = some (rv, .arr 1 3 (eInt.E l)) := by
          refine hIq.heap _ _ ?_
          rw [if_neg hiL, qml]
          have := qcV 0 hrow
          rwa [Nat.zero_add] at this
        refine l_op rfl rfl rfl (qm2 eInt (l := l) (m := [e.2.2]) rfl rfl ty31 ty31 ty3 q hr0 q2 rfl rfl ⟨by simp; omega, by simp only [maxLen, List.length_singleton]; omega⟩ (fun v2 => qah ⟨v2, ?_⟩))
        refine ⟨fun p hp => ?_, fun k hk h12 => ?_, fun id x hx => ?_⟩
        · have := hb20 p hp
          show sget ((31, _) :: s.slots) p.1 = _
          simp only [sget]
          rw [if_neg (by omega)]
          exact hIq.base p hp
        · show sget ((31, _) :: s.slots) (20 + k) = _
          simp only [sget]
          by_cases ek : k = 11
          · subst ek
            rfl
          rw [if_neg (by omega)]
          rcases List.mem_cons.1 hk with h1 | h1
          · exact absurd h1 ek
          have := val k h1 h12
          rw [this]
          match k, ek, h12 with
          | 0, _, _ | 1, _, _ | 2, _, _ | 3, _, _ | 4, _, _ | 5, _, _ | 6, _, _ | 7, _, _ | 8, _, _ | 9, _, _ | 10, _, _ => rfl
          | 11, h, _ => exact absurd rfl h
        rw [if_pos (List.mem_cons_self ..)] at hx
        show hget ((rid e.1.toNat, v2, .arr 1 3 (eInt.E (l ++ [e.2.2]))) :: s.heap) id = some x
        by_cases ei : id = rid e.1.toNat
        · subst ei
          rw [qml] at hx
          have := qmP (v' := v2) (l' := l ++ [e.2.2]) hrow _ _ hx
          rw [qaY] at this ⊢
          exact this
        rw [qaz ei]
        refine hIq.heap id x ?_
        rw [if_neg hiL]
        by_cases j7 : id = 234007
        · subst j7; exact hx
        by_cases j5 : id = 234005
        · subst j5; exact hx
        by_cases j12 : id = 234012
        · subst j12; exact hx
        rw [qaz j7, qaz j5, qaz j12] at hx ⊢
        have := qmP (v' := v2) (l' := l ++ [e.2.2]) hrow _ _ hx
        rwa [qaz ei] at this
    · -- the rest
      rintro L s ⟨v', hIq⟩ hall
      have h11 : 11 ∈ L := (hall 11).1 (by decide)
      refine l_go (L' := [0, 1, 2, 3, 4, 5, 6, 7, 8, 9, 10, 11]) hF ?_ (hfin v') ⟨?_, fun id x h => hIq.heap id x (by rw [if_pos h11]; exact h)⟩
      · rw [List.all_eq_true]
        intro i _
        by_cases h : i < 12
        · have e1 : L.contains i = true := List.contains_iff_mem.2 ((hall i).1 h)
          rw [e1]
          match i, h with
          | 0, _ | 1, _ | 2, _ | 3, _ | 4, _ | 5, _ | 6, _ | 7, _ | 8, _ | 9, _ | 10, _ | 11, _ => rfl
        have e1 : L.contains i = false := by
          cases hc : L.contains i with
          | false => rfl
          | true => exact absurd ((hall i).2 (List.contains_iff_mem.1 hc)) h
        have e2 : ([0, 1, 2, 3, 4, 5, 6, 7, 8, 9, 10, 11] : List Nat).contains i = false := by
          cases hc : ([0, 1, 2, 3, 4, 5, 6, 7, 8, 9, 10, 11] : List Nat).contains i with
          | false => rfl
          | true =>
            have := List.contains_iff_mem.1 hc
            simp at this
            omega
        rw [e1, e2]
        rfl
      refine qaO ⟨hIq.val 0 ((hall 0).1 (by decide)) (by decide), hIq.val 2 ((hall 2).1 (by decide)) (by decide), hIq.val 11 h11 (by decide), ?_⟩
      exact ⟨hIq.base (1, _) (by simp), hIq.base (2, _) (by simp), hIq.base (5, _) (by simp), hIq.base (7, _) (by simp), hIq.base (14, _) (.tail _ (.tail _ (.tail _ (.tail _ (.head _))))), hIq.base (15, _) (by simp), hIq.base (16, _) (by simp), trivial⟩
    intro p hp
    simp only [List.mem_cons, List.not_mem_nil, or_false] at hp
    rcases hp with rfl | rfl | rfl | rfl | rfl | rfl | rfl <;> rfl
  have hc := of_decide_eq_false hc
  have hkE : k = E.length := by omega
  subst hkE
  rw [List.take_length] at hrw
  refine AW.exit ?_
  refine zaa rfl fun K hK => bv rfl (qac qcp rfl) (bv rfl (qab ty3 rfl (qan rfl rfl)) ?_)
  refine b_op rfl (qfC (fid := 234) eBool false 234036 rfl rfl qdM rfl rfl ty4 rfl rfl (show 0 ≤ (Sn : Int) ∧ (Sn : Int) ≤ (Sn : Int) ∧ (Sn : Int) * ((1 : Nat) : Int) ≤ 281474976710656 by omega) (fun v36 => ?_))
  refine b_op rfl (qba (fid := 234) (zs := [.v (.slice none 0 0)]) 234008 rfl rfl qdM rfl (fun v8 => ?_))
  refine b_op rfl (qaD (cs := [.ar 234036 v36 1 0 (List.replicate (Sn : Int).toNat false).length]) (zs := [.ar 234036 v36 1 0 (List.replicate (Sn : Int).toNat false).length]) rfl rfl rfl qdM rfl rfl rfl rfl rfl ?_)
  refine qah (hK _ (AW.to (qa9 (s' := ⟨[(1, hI (sn : Int)), (2, .fptr [hI L0, hI (Sn : Int), slE eFromLabelTo E] 0), (5, .ptr 234005 v5 0), (8, .ptr 234008 v8 0)], (234008, v8, .arr 1 189 [.ar 234036 v36 1 0 (List.replicate (Sn : Int).toNat false).length]) :: (234036, v36, .arr 1 4 (eBool.E (List.replicate (Sn : Int).toNat false))) :: hN v5 v12 Sn (hdr 0 rs) rs⟩) ⟨qaO ⟨rfl, rfl, rfl, rfl, trivial⟩, qlj⟩ ?_)))
  simp only [Int.toNat_natCast, List.length_replicate]
  refine zaa rfl fun K hK => b_op rfl (qba (fid := 234) (zs := [.v .nilFunc]) 234009 rfl rfl qob rfl (fun v9 => ?_))
  refine qah (hK _ ?_)
  refine zaa rfl fun K hK => bv rfl (qgp rfl rfl) ?_
  refine b_op rfl (qaD (cs := [.fn (.func 251) [] [.ptr 234008 v8 0, .ptr 234005 v5 0, .ptr 234009 v9 0]]) (zs := [.fn (.func 251) [] [.ptr 234008 v8 0, .ptr 234005 v5 0, .ptr 234009 v9 0]]) rfl rfl rfl qob rfl rfl rfl rfl rfl ?_)
  refine qah (hK _ (AW.to (qa9 (s' := ⟨[(1, hI (sn : Int)), (8, .ptr 234008 v8 0), (9, .ptr 234009 v9 0)], hR v8 v36 v5 v12 v9 Sn (List.replicate Sn false) rs⟩) ⟨qaO ⟨rfl, rfl, rfl, trivial⟩, qci ⟨rfl, rfl, rfl, rfl, rfl, qe7 _ 0 fun i v l hi => ?_⟩⟩ ?_)))
  · show hget ((234009, v9, _) :: (234009, v9, _) :: (234008, v8, _) :: (234036, v36, _) :: hN v5 v12 Sn (hdr 0 rs) rs) _ = _
    rw [Nat.zero_add, qaz (by unfold rid; omega), qaz (by unfold rid; omega), qaz (by unfold rid; omega), qaz (by unfold rid; omega), qq2]
    have := qcV 0 hi
    rwa [Nat.zero_add] at this
  have hnb : ∀ i, i < Sn → ∀ t ∈ qer E i, 0 ≤ t ∧ t < (Sn : Int) := fun i _ t ht => by
    obtain ⟨x, hx, rfl⟩ := List.mem_map.1 ht
    exact (hed x (List.mem_filter.1 hx).1).2
  have hnl : ∀ i, i < Sn → (qer E i).length ≤ 100000 := fun i _ => by
    unfold qer
    rw [List.length_map]
    exact Nat.le_trans (List.length_filter_le _ _) hE
  have hcnt : (List.replicate Sn false).count false = Sn := by simp
  have hget0 : (List.replicate Sn false).getD sn true = false := by
    rw [List.getD_eq_getElem?_getD, List.getElem?_eq_getElem (by simp; omega)]
    simp
  have hcall := qjn (v8 := v8) (v36 := v36) (v5 := v5) (v12 := v12) (v9 := v9) hrs (fun i v l hi => (hrw i v l hi).1) hnb hnl (by omega) Sn (List.replicate Sn false) sn (by simp) (by omega) hget0 (by omega)
  have hvl := qed (qer E) Sn (List.replicate Sn false) sn
  rw [List.length_replicate] at hvl
  generalize hvs : qcb (qer E) Sn (List.replicate Sn false) sn = vs at hcall hvl
  refine zaa rfl fun K hK => bv rfl (qar qob rfl rfl (qan rfl rfl)) (mv rfl rfl ?_)
  refine b_op rfl (qfD rfl rfl rfl rfl (hcall.mono fun r H' he => ?_))
  obtain ⟨rfl, rfl⟩ := he
  refine qah (hK _ (AW.to (qa9 (s' := ⟨[(8, .ptr 234008 v8 0)], hR v8 v36 v5 v12 v9 Sn vs rs⟩) ⟨qaO ⟨rfl, trivial⟩, fun _ _ h => h⟩ ?_)))
  refine zaa rfl fun K hK => bv rfl (qar qdM rfl rfl (qan rfl rfl)) (mv rfl rfl ?_)
  refine qah (hK _ (AW.to (qa9 (s' := ⟨[(4, .ar 234036 v36 eBool.k 0 vs.length)], [(234036, v36, .arr eBool.k 4 (eBool.E vs))]⟩) ⟨qaO ⟨by rw [hvl]; rfl, trivial⟩, qci ⟨rfl, trivial⟩⟩ ?_)))
  refine AW.to (qdN 2 [(234036, v36, .arr eBool.k 4 (eBool.E vs))] ⟨[(4, slE eBool vs)], []⟩ ⟨⟨_, rfl, qbw eBool (l := vs) rfl fun _ _ => rfl⟩, trivial⟩ trivial ⟨rfl, trivial⟩ ⟨rfl, trivial⟩ ?_)
  refine AW.ret ?_
  exact qad (.inr rfl) (resT rfl rfl) (by rw [← hvs]; simp [qgG]) (qai fun _ _ => ⟨trivial, trivial⟩)
section
variable {P : Program} {s : AS}
end
abbrev FPg (L S : Int) (E : List qam) : HV := HV.fptr [HV.int .i64 L, HV.int .i64 S, slE eFromLabelTo E] 0
abbrev oRw (v : Nat) (l : List (List Bool)) : AObj := .arr 1 189 ((eSl eBool).E l)
abbrev oLi (l : List Int) : AObj := .arr 1 3 (eInt.E l)
set_option maxHeartbeats 8000000 in
set_option maxRecDepth 100000 in
theorem qe8 {p0 : qaa} {L : List (List Int)} (h : qbK p0 = some L) : qnw Tryz.prog 233 [] [HV.fptr [HV.int .i64 p0.1, HV.int .i64 p0.2.1, slE eFromLabelTo p0.2.2] 0] (L.map fun x => [slE eInt x]) := by
 unfold qbK at h
 split at h
 case isFalse => cases h
 rename_i hok
 have h := Option.some.inj h
 have hS := hok.1
 have hrow0 : ∀ s : Nat, s < p0.2.1.toNat → qcI p0 (s : Int) = some (rowR p0 s) := fun s hs => by
  unfold qcI rowR
  rw [if_pos ⟨hok.1, hok.2.1, ⟨by omega, by omega⟩, hok.2.2⟩, Int.toNat_natCast]
 have hne := fun s (hs : s < p0.2.1.toNat) => qrF hok hs
 obtain ⟨L0, S0, E⟩ := p0
 dsimp only at hS hrow0 hne h ⊢
 obtain ⟨S, rfl⟩ := Int.eq_ofNat_of_zero_le hS.1
 rw [Int.toNat_natCast] at h hrow0 hne
 have hSb : S ≤ 1000 := by omega
 have hlenR : ∀ s, (rowR (L0, ((S : Int), E)) s).length = S := fun s => by rw [qmR]; exact Int.toNat_natCast S
 intro id ver H J Stop K hmn h0 hstep hdone hstop
 refine ACall.of_body Tryz.func233 rfl rfl (Nat.le_of_ble_eq_true rfl) ?_
 unfold Tryz.f233
 dsimp only [qaH, Nat.reduceAdd]
 refine zaa rfl fun K1 hK => ?_
 refine mv rfl rfl ?_
 refine qah (hK _ (AW.to (qa9 (s' := ⟨[(0, .yl id ver), (1, FPg L0 (S : Int) E), (3, HV.v (.slice none 0 0))], H⟩) (qcA ⟨rfl, rfl, rfl, trivial⟩) ?_)))
 clear hK K1
 have hiF := qfa H
 generalize qgK H = iF at hiF
 refine AW.seqG (fun s' => AS.le s' ⟨[(0, .yl id ver), (1, FPg L0 (S : Int) E), (3, slE (eSl eBool) (qbO (L0, ((S : Int), E)) S))], H⟩) ?_ ?_
 ·refine zaa rfl fun K1 hK => ?_
  refine bv rfl (qac qcp rfl) ?_
  refine bv rfl (qab ty3 rfl (qan rfl rfl)) ?_
  refine mv rfl rfl ?_
  refine qah (hK _ (AW.to (qa9 (s' := ⟨[(0, .yl id ver), (1, FPg L0 (S : Int) E), (3, HV.v (.slice none 0 0)), (9, .int .i64 (S : Int)), (10, .int .i64 0)], H⟩) (qcA ⟨rfl, rfl, rfl, rfl, rfl, trivial⟩) ?_)))
  clear hK K1
  refine AW.to (qoe iF 3 1 189 rfl fun v0 => ?_)
  refine zaf ?_
  refine AW.loopS (fun p : Nat × Nat => ⟨[(0, .yl id ver), (1, FPg L0 (S : Int) E), (3, .ar iF p.2 1 0 (qbO (L0, ((S : Int), E)) p.1).length), (9, .int .i64 (S : Int)), (10, .int .i64 (p.1 : Int))], (iF, p.2, oRw p.2 (qbO (L0, ((S : Int), E)) p.1)) :: H⟩) (fun p => p.1 ≤ S) (fun p => S - p.1) (0, v0) ⟨qaO ⟨rfl, rfl, rfl, rfl, rfl, trivial⟩, qmh⟩ (Nat.zero_le _) ?_
  rintro ⟨i, v⟩ hi
  dsimp only at hi ⊢
  have hnxt : IntKind.wrap .i64 ((i : Int) + 1) = ((i + 1 : Nat) : Int) := by rw [w64 (by omega) (by omega)]; omega
  have hrl : (qbO (L0, ((S : Int), E)) i).length = i := by unfold qbO; rw [List.length_map, List.length_range]
  refine zaa rfl fun K1 hK => ?_
  refine bv rfl (qae rfl rfl qaV) ?_
  refine qah (hK _ (AW.to (qa9 (s' := ⟨[(0, .yl id ver), (1, FPg L0 (S : Int) E), (3, .ar iF v 1 0 (qbO (L0, ((S : Int), E)) i).length), (9, .int .i64 (S : Int)), (10, .int .i64 (i : Int)), (11, .bool (decide ((i : Int) < (S : Int))))], (iF, v, oRw v (qbO (L0, ((S : Int), E)) i)) :: H⟩) (qcA ⟨rfl, rfl, rfl, rfl, rfl, rfl, trivial⟩) ?_)))
  clear hK K1
  refine zam rfl (fun hc => ?_) (fun hc => ?_)
  ·have hc := of_decide_eq_true hc
   have his : i < S := by omega
   have hrs : qbO (L0, ((S : Int), E)) (i + 1) = qbO (L0, ((S : Int), E)) i ++ [rowR (L0, ((S : Int), E)) i] := by unfold qbO; rw [List.range_succ, List.map_append]; rfl
   refine zac ?_
   refine zad (zaf ?_)
   refine zaa rfl fun K1 hK => ?_
   refine mv rfl rfl ?_
   refine mv rfl rfl ?_
   refine qah (hK _ (AW.to (qa9 (s' := ⟨[(0, .yl id ver), (1, FPg L0 (S : Int) E), (3, .ar iF v 1 0 (qbO (L0, ((S : Int), E)) i).length), (4, .int .i64 (i : Int)), (9, .int .i64 (S : Int)), (10, .int .i64 (i : Int))], (iF, v, oRw v (qbO (L0, ((S : Int), E)) i)) :: H⟩) (qcA ⟨rfl, rfl, rfl, rfl, rfl, rfl, trivial⟩) ?_)))
   clear hK K1
   have hr := hrow0 i his
   refine zab rfl fun K1 hK => ?_
   refine mv rfl rfl ?_
   refine bv rfl (qab ty27 rfl (qav rfl (Nat.le_of_ble_eq_true rfl) rfl)) ?_
   refine mv rfl rfl ?_
   refine b_op rfl (qaB rfl rfl rfl rfl (zai (qg3 hr)) ?_)
   refine b_op rfl (qdX rfl rfl (qbV (cs := [slE eBool (rowR (L0, ((S : Int), E)) i)]) qhO qdM rfl rfl rfl rfl rfl) ?_)
   refine b_op rfl (qdh (eSl eBool) (l := qbO (L0, ((S : Int), E)) i) (m := [rowR (L0, ((S : Int), E)) i]) rfl rfl qhO qhO qdM rfl qaY rfl rfl rfl ⟨by simp; omega, by simp only [maxLen, List.length_singleton]; omega⟩ (fun v2 => ?_))
   refine mv rfl rfl ?_
   refine qah (hK _ (AW.to (qa9 (s' := ⟨[(0, .yl id ver), (1, FPg L0 (S : Int) E), (3, .ar iF v2 1 0 (qbO (L0, ((S : Int), E)) (i + 1)).length), (9, .int .i64 (S : Int)), (10, .int .i64 (i : Int))], (iF, v2, oRw v2 (qbO (L0, ((S : Int), E)) (i + 1))) :: H⟩) ⟨qaO ⟨rfl, rfl, by rw [hrs]; rfl, rfl, rfl, trivial⟩, by rw [hrs]; exact qkz⟩ ?_)))
   clear hK K1
   refine zab rfl fun K1 hK => ?_
   refine bv rfl (qae rfl rfl qa6) ?_
   rw [hnxt]
   refine mv rfl rfl ?_
   refine qah (hK _ ?_)
   exact ⟨(i + 1, v2), by dsimp only; omega, by dsimp only; omega, ⟨qaO ⟨rfl, rfl, rfl, rfl, rfl, trivial⟩, fun _ _ h => h⟩⟩
  have hc := of_decide_eq_false hc
  obtain rfl : i = S := by omega
  refine AW.to (qof 2 [(iF, v, oRw v (qbO (L0, ((i : Int), E)) i))] ⟨[(0, .yl id ver), (1, FPg L0 (i : Int) E), (3, slE (eSl eBool) (qbO (L0, ((i : Int), E)) i))], H⟩ ⟨⟨_, rfl, rfl⟩, ⟨_, rfl, rfl⟩, ⟨_, rfl, qbw (eSl eBool) qaY fun _ _ => rfl⟩, trivial⟩ (qe6 hiF) (fun j x hx => ?_) (fun j x hx => ?_) ?_)
  ·by_cases e : j = iF
   ·subst e; rw [qaY] at hx ⊢; exact hx
   rw [qaz e] at hx; cases hx
  ·by_cases e : j = iF
   ·subst e; exact hiF
   rw [qaz e] at hx; cases hx
  exact AW.exit ⟨rfl, AS.le_refl _⟩
 intro s0 hle0
 refine AW.to (qa9 hle0 ?_)
 clear hle0 s0 hiF iF
 generalize hg : ((L0, ((S : Int), E)) : qaa) = g at *
 have hgS : g.2.1.toNat = S := by rw [← hg]; exact Int.toNat_natCast S
 have hlenC : ∀ n, (qda g n).length ≤ n := fun n => by
  unfold qda
  rw [List.length_map]
  exact Nat.le_trans (List.length_filter_le _ _) (by simp)
 refine zaa rfl fun K1 hK => ?_
 refine bv rfl (qac qcp rfl) ?_
 refine bv rfl (qab ty3 rfl (qan rfl rfl)) ?_
 refine mv rfl rfl ?_
 refine qah (hK _ (AW.to (qa9 (s' := ⟨[(0, .yl id ver), (1, FPg L0 (S : Int) E), (3, slE (eSl eBool) (qbO g S)), (21, .int .i64 (S : Int)), (22, .int .i64 ((0 : Nat) : Int))], H⟩) (qcA ⟨rfl, rfl, rfl, rfl, rfl, trivial⟩) ?_)))
 clear hK K1
 refine zaf ?_
 refine AW.loopS (fun p : Nat × Heap => ⟨[(0, .yl id ver), (1, FPg L0 (S : Int) E), (3, slE (eSl eBool) (qbO g S)), (21, .int .i64 (S : Int)), (22, .int .i64 (p.1 : Int))], p.2⟩) (fun p => p.1 ≤ S ∧ J (qda g p.1).length p.2) (fun p => S - p.1) (0, H) (AS.le_refl _) ⟨Nat.zero_le _, h0⟩ ?_
 rintro ⟨s, H1⟩ ⟨hs, hj⟩
 dsimp only at hs hj ⊢
 have hnxt : IntKind.wrap .i64 ((s : Int) + 1) = ((s + 1 : Nat) : Int) := by rw [w64 (by omega) (by omega)]; omega
 refine zaa rfl fun K1 hK => ?_
 refine bv rfl (qae rfl rfl qaV) ?_
 refine qah (hK _ (AW.to (qa9 (s' := ⟨[(0, .yl id ver), (1, FPg L0 (S : Int) E), (3, slE (eSl eBool) (qbO g S)), (21, .int .i64 (S : Int)), (22, .int .i64 (s : Int)), (23, .bool (decide ((s : Int) < (S : Int))))], H1⟩) (qcA ⟨rfl, rfl, rfl, rfl, rfl, rfl, trivial⟩) ?_)))
 clear hK K1
 refine zam rfl (fun hc => ?_) (fun hc => ?_)
 ·have hc := of_decide_eq_true hc
  have hsS : s < S := by omega
  have hrw : ∀ t, t < S → idx (qbO g S) (t : Int) = some (rowR g t) := fun t ht => by
   unfold qbO
   rw [qfI, List.getElem?_map, List.getElem?_range ht]
   rfl
  have hrb : ∀ t u, u < S → idx (rowR g t) (u : Int) = some ((rowR g t).getD u false) := fun t u hu => by
   rw [qfI, List.getD_eq_getElem?_getD, List.getElem?_eq_getElem (by rw [hlenR]; exact hu)]
   rfl
  refine zac ?_
  refine zad (zaf ?_)
  refine zaa rfl fun K1 hK => ?_
  refine mv rfl rfl ?_
  refine mv rfl rfl ?_
  refine qah (hK _ ?_)
  clear hK K1
  refine zaa rfl fun K1 hK => ?_
  refine mv rfl rfl ?_
  refine qah (hK _ (AW.to (qa9 (s' := ⟨[(0, .yl id ver), (1, FPg L0 (S : Int) E), (3, slE (eSl eBool) (qbO g S)), (5, .int .i64 (s : Int)), (6, HV.v (.slice none 0 0)), (21, .int .i64 (S : Int)), (22, .int .i64 (s : Int))], H1⟩) (qcA ⟨rfl, rfl, rfl, rfl, rfl, rfl, rfl, trivial⟩) ?_)))
  clear hK K1
  have hiL := qfa H1
  generalize qgK H1 = iL at hiL
  refine AW.seqG (fun s' => AS.le s' ⟨[(0, .yl id ver), (1, FPg L0 (S : Int) E), (3, slE (eSl eBool) (qbO g S)), (5, .int .i64 (s : Int)), (6, slE eInt (lstB g s S)), (21, .int .i64 (S : Int)), (22, .int .i64 (s : Int))], H1⟩) ?_ ?_
  ·refine zaa rfl fun K1 hK => ?_
   refine bv rfl (qac qcp rfl) ?_
   refine bv rfl (qab ty3 rfl (qan rfl rfl)) ?_
   refine mv rfl rfl ?_
   refine qah (hK _ (AW.to (qa9 (s' := ⟨[(0, .yl id ver), (1, FPg L0 (S : Int) E), (3, slE (eSl eBool) (qbO g S)), (5, .int .i64 (s : Int)), (6, HV.v (.slice none 0 0)), (21, .int .i64 (S : Int)), (22, .int .i64 (s : Int)), (26, .int .i64 (S : Int)), (27, .int .i64 0)], H1⟩) (qcA ⟨rfl, rfl, rfl, rfl, rfl, rfl, rfl, rfl, rfl, trivial⟩) ?_)))
   clear hK K1
   refine AW.to (qoe iL 6 1 3 rfl fun v0 => ?_)
   refine zaf ?_
   refine AW.loopS (fun p : Nat × Nat => ⟨[(0, .yl id ver), (1, FPg L0 (S : Int) E), (3, slE (eSl eBool) (qbO g S)), (5, .int .i64 (s : Int)), (6, .ar iL p.2 1 0 (lstB g s p.1).length), (21, .int .i64 (S : Int)), (22, .int .i64 (s : Int)), (26, .int .i64 (S : Int)), (27, .int .i64 (p.1 : Int))], (iL, p.2, oLi (lstB g s p.1)) :: H1⟩) (fun p => p.1 ≤ S) (fun p => S - p.1) (0, v0) ⟨qaO ⟨rfl, rfl, rfl, rfl, rfl, rfl, rfl, rfl, rfl, trivial⟩, qmh⟩ (Nat.zero_le _) ?_
   rintro ⟨t, v⟩ ht
   dsimp only at ht ⊢
   have hnxt2 : IntKind.wrap .i64 ((t : Int) + 1) = ((t + 1 : Nat) : Int) := by rw [w64 (by omega) (by omega)]; omega
   have hll := qkx g s t
   refine zaa rfl fun K1 hK => ?_
   refine bv rfl (qae rfl rfl qaV) ?_
   refine qah (hK _ (AW.to (qa9 (s' := ⟨[(0, .yl id ver), (1, FPg L0 (S : Int) E), (3, slE (eSl eBool) (qbO g S)), (5, .int .i64 (s : Int)), (6, .ar iL v 1 0 (lstB g s t).length), (21, .int .i64 (S : Int)), (22, .int .i64 (s : Int)), (26, .int .i64 (S : Int)), (27, .int .i64 (t : Int)), (28, .bool (decide ((t : Int) < (S : Int))))], (iL, v, oLi (lstB g s t)) :: H1⟩) (qcA ⟨rfl, rfl, rfl, rfl, rfl, rfl, rfl, rfl, rfl, rfl, trivial⟩) ?_)))
   clear hK K1
   refine zam rfl (fun hc => ?_) (fun hc => ?_)
   ·have hc := of_decide_eq_true hc
    have htS : t < S := by omega
    refine zac ?_
    refine AW.seqG (fun s' => ∃ v', AS.le s' ⟨[(0, .yl id ver), (1, FPg L0 (S : Int) E), (3, slE (eSl eBool) (qbO g S)), (5, .int .i64 (s : Int)), (6, .ar iL v' 1 0 (lstB g s (t + 1)).length), (21, .int .i64 (S : Int)), (22, .int .i64 (s : Int)), (26, .int .i64 (S : Int)), (27, .int .i64 (t : Int))], (iL, v', oLi (lstB g s (t + 1))) :: H1⟩) (zaf ?_) ?_
    ·refine zaa rfl fun K1 hK => ?_
     refine mv rfl rfl ?_
     refine mv rfl rfl ?_
     refine qah (hK _ (AW.to (qa9 (s' := ⟨[(0, .yl id ver), (1, FPg L0 (S : Int) E), (3, slE (eSl eBool) (qbO g S)), (5, .int .i64 (s : Int)), (6, .ar iL v 1 0 (lstB g s t).length), (7, .int .i64 (t : Int)), (21, .int .i64 (S : Int)), (22, .int .i64 (s : Int)), (26, .int .i64 (S : Int)), (27, .int .i64 (t : Int))], (iL, v, oLi (lstB g s t)) :: H1⟩) (qcA ⟨rfl, rfl, rfl, rfl, rfl, rfl, rfl, rfl, rfl, rfl, trivial⟩) ?_)))
     clear hK K1
     refine zaa rfl fun K1 hK => ?_
     refine mv rfl rfl ?_
     refine mv rfl rfl ?_
     refine bv rfl (qaJ qhO qqx rfl rfl (qaw (hrw s hsS))) ?_
     refine bv rfl (qab qdM rfl (qaL (eSl eBool) (hrw s hsS) (o := 0) rfl rfl)) ?_
     refine mv rfl rfl ?_
     refine bv rfl (qaJ qdM qkJ rfl rfl (qaw (hrb s t htS))) ?_
     refine bv rfl (qab ty4 rfl (qaL eBool (hrb s t htS) (o := 0) rfl rfl)) ?_
     refine mv rfl rfl ?_
     have fin : ∀ b : Bool, b = inC g s t → K1 ⟨[(0, .yl id ver), (1, FPg L0 (S : Int) E), (3, slE (eSl eBool) (qbO g S)), (5, .int .i64 (s : Int)), (6, .ar iL v 1 0 (lstB g s t).length), (7, .int .i64 (t : Int)), (21, .int .i64 (S : Int)), (22, .int .i64 (s : Int)), (26, .int .i64 (S : Int)), (27, .int .i64 (t : Int)), (45, .bool b)], (iL, v, oLi (lstB g s t)) :: H1⟩ := by
      intro b hb
      refine hK _ ?_
      clear hK K1
      have hls := qiT g s t
      rw [← hb] at hls
      refine zae rfl (fun hc => ?_) (fun hc => ?_)
      ·rw [if_pos hc] at hls
       refine zab rfl fun K1 hK => ?_
       refine mv rfl rfl ?_
       refine mv rfl rfl ?_
       refine b_op rfl (qdX rfl rfl (qbV (cs := [HV.int .i64 (t : Int)]) ty31 ty3 rfl rfl rfl rfl rfl) ?_)
       refine b_op rfl (qdh eInt (l := lstB g s t) (m := [(t : Int)]) rfl rfl ty31 ty31 ty3 rfl qaY rfl rfl rfl ⟨by simp; omega, by simp only [maxLen, List.length_singleton]; omega⟩ (fun v2 => ?_))
       refine mv rfl rfl ?_
       refine qah (hK _ ⟨rfl, v2, ?_⟩)
       rw [hls]
       exact ⟨qaO ⟨rfl, rfl, rfl, rfl, rfl, rfl, rfl, rfl, rfl, trivial⟩, qkz⟩
      rw [if_neg (by rw [hc]; decide)] at hls
      refine zac ⟨rfl, v, ?_⟩
      rw [hls]
      exact ⟨qaO ⟨rfl, rfl, rfl, rfl, rfl, rfl, rfl, rfl, rfl, trivial⟩, fun _ _ h => h⟩
     by_cases hb : (rowR g s).getD t false = true
     ·refine b_T rfl rfl rfl rfl hb (qaf rfl (qas rfl rfl).2 ?_)
      refine b_T rfl rfl rfl rfl rfl (qaf rfl (qas rfl rfl).2 ?_)
      refine b_T rfl rfl rfl rfl rfl (qaf rfl (qaJ qhO qqx rfl rfl (qaw (hrw t htS))) ?_)
      refine b_T rfl rfl rfl rfl rfl (qaf rfl (qab qdM rfl (qaL (eSl eBool) (hrw t htS) (o := 0) rfl rfl)) ?_)
      refine b_T rfl rfl rfl rfl rfl (qaf rfl (qas rfl rfl).2 ?_)
      refine b_T rfl rfl rfl rfl rfl (qaf rfl (qaJ qdM qkJ rfl rfl (qaw (hrb t s hsS))) ?_)
      refine b_T rfl rfl rfl rfl rfl (qaf rfl (qab ty4 rfl (qaL eBool (hrb t s hsS) (o := 0) rfl rfl)) ?_)
      refine bv rfl (qaj rfl rfl rfl) ?_
      refine qbx (s' := ⟨[(0, .yl id ver), (1, FPg L0 (S : Int) E), (3, slE (eSl eBool) (qbO g S)), (5, .int .i64 (s : Int)), (6, .ar iL v 1 0 (lstB g s t).length), (7, .int .i64 (t : Int)), (21, .int .i64 (S : Int)), (22, .int .i64 (s : Int)), (26, .int .i64 (S : Int)), (27, .int .i64 (t : Int)), (45, .bool ((rowR g t).getD s false))], (iL, v, oLi (lstB g s t)) :: H1⟩) (qcA ⟨rfl, rfl, rfl, rfl, rfl, rfl, rfl, rfl, rfl, rfl, rfl, trivial⟩) ?_
      exact qah (fin _ (by unfold inC; rw [hb, Bool.true_and]))
     have hb : (rowR g s).getD t false = false := by simpa using hb
     refine b_F rfl rfl rfl rfl rfl hb ?_
     refine b_F rfl rfl rfl rfl rfl rfl ?_
     refine b_F rfl rfl rfl rfl rfl rfl ?_
     refine b_F rfl rfl rfl rfl rfl rfl ?_
     refine b_F rfl rfl rfl rfl rfl rfl ?_
     refine b_F rfl rfl rfl rfl rfl rfl ?_
     refine b_F rfl rfl rfl rfl rfl rfl ?_
     refine bv rfl (qak rfl rfl rfl) ?_
     refine qbx (s' := ⟨[(0, .yl id ver), (1, FPg L0 (S : Int) E), (3, slE (eSl eBool) (qbO g S)), (5, .int .i64 (s : Int)), (6, .ar iL v 1 0 (lstB g s t).length), (7, .int .i64 (t : Int)), (21, .int .i64 (S : Int)), (22, .int .i64 (s : Int)), (26, .int .i64 (S : Int)), (27, .int .i64 (t : Int)), (45, .bool false)], (iL, v, oLi (lstB g s t)) :: H1⟩) (qcA ⟨rfl, rfl, rfl, rfl, rfl, rfl, rfl, rfl, rfl, rfl, rfl, trivial⟩) ?_
     exact qah (fin _ (by unfold inC; rw [hb, Bool.false_and]))
    rintro s2 ⟨v2, hle2⟩
    refine AW.to (qa9 hle2 ?_)
    refine zab rfl fun K1 hK => ?_
    refine bv rfl (qae rfl rfl qa6) ?_
    rw [hnxt2]
    refine mv rfl rfl ?_
    refine qah (hK _ ?_)
    exact ⟨(t + 1, v2), by dsimp only; omega, by dsimp only; omega, ⟨qaO ⟨rfl, rfl, rfl, rfl, rfl, rfl, rfl, rfl, rfl, trivial⟩, fun _ _ h => h⟩⟩
   have hc := of_decide_eq_false hc
   obtain rfl : t = S := by omega
   refine AW.to (qof 2 [(iL, v, oLi (lstB g s t))] ⟨[(0, .yl id ver), (1, FPg L0 (t : Int) E), (3, slE (eSl eBool) (qbO g t)), (5, .int .i64 (s : Int)), (6, slE eInt (lstB g s t)), (21, .int .i64 (t : Int)), (22, .int .i64 (s : Int))], H1⟩ ⟨⟨_, rfl, rfl⟩, ⟨_, rfl, rfl⟩, ⟨_, rfl, rfl⟩, ⟨_, rfl, rfl⟩, ⟨_, rfl, qbw eInt qaY fun _ _ => rfl⟩, ⟨_, rfl, rfl⟩, ⟨_, rfl, rfl⟩, trivial⟩ (qe6 hiL) (fun j x hx => ?_) (fun j x hx => ?_) ?_)
   ·by_cases e : j = iL
    ·subst e; rw [qaY] at hx ⊢; exact hx
    rw [qaz e] at hx; cases hx
   ·by_cases e : j = iL
    ·subst e; exact hiL
    rw [qaz e] at hx; cases hx
   exact AW.exit ⟨rfl, AS.le_refl _⟩
  intro s1 hle1
  refine AW.to (qa9 hle1 ?_)
  clear hle1 s1 hiL iL
  have hnes := hne s hsS
  obtain ⟨x0, hx0⟩ := hnes
  have hix : idx (lstB g s S) (0 : Int) = some x0 := hx0
  have hhd : (lstB g s S).head? = some x0 := by rw [List.head?_eq_getElem?]; exact hx0
  have hcs := qhh g s
  rw [hgS, hhd] at hcs
  refine zaa rfl fun K1 hK => ?_
  refine mv rfl rfl ?_
  refine bv rfl (qaJ ty31 es31 rfl rfl (qaw hix)) ?_
  refine bv rfl (qab ty3 rfl (qaL eInt hix (o := 0) rfl rfl)) ?_
  refine mv rfl rfl ?_
  refine bv rfl (qae rfl rfl qd1) ?_
  refine mv rfl rfl ?_
  by_cases hx : x0 = (s : Int)
  ·rw [if_pos (by rw [hx])] at hcs
   refine b_T rfl rfl rfl rfl (decide_eq_true hx) (qaf rfl (qas rfl rfl).2 ?_)
   refine b_T rfl rfl rfl rfl rfl (qaf rfl (qas rfl rfl).2 ?_)
   refine b_T rfl rfl rfl rfl rfl (qoS (hs := [slE eInt (lstB g s S)]) rfl rfl rfl ?_)
   obtain ⟨l2, hl2⟩ := qpx g (show s + 1 ≤ S by omega)
   refine (hstep (qda g s).length [slE eInt (lstB g s S)] _ ?_ hj).mono ?_
   ·rw [← h, List.getElem?_map, hl2, hcs, List.append_assoc, List.getElem?_append_right (Nat.le_refl _), Nat.sub_self]
    rfl
   rintro r H2 ⟨b, rfl, h3, h4⟩
   refine b_T rfl rfl rfl rfl rfl (qaf rfl (qfu rfl) ?_)
   refine bv rfl (qaj rfl rfl rfl) ?_
   refine qah (hK _ (AW.to (qa9 (s' := ⟨[(0, .yl id ver), (1, FPg L0 (S : Int) E), (3, slE (eSl eBool) (qbO g S)), (21, .int .i64 (S : Int)), (22, .int .i64 (s : Int)), (61, .bool (!b))], H2⟩) (qcA ⟨rfl, rfl, rfl, rfl, rfl, rfl, trivial⟩) ?_)))
   clear hK K1
   refine zae rfl (fun hc => ?_) (fun hc => ?_)
   ·have hb : b = false := by simpa using hc
    refine AW.ret ⟨.inr rfl, ?_⟩
    simp only [go_sem, reduceIte, Nat.reduceEqDiff]
    exact ⟨_, _, Conv.refl _ _, hstop _ (h4 hb)⟩
   have hb : b = true := by simpa using hc
   refine zac ?_
   refine zab rfl fun K1 hK => ?_
   refine bv rfl (qae rfl rfl qa6) ?_
   rw [hnxt]
   refine mv rfl rfl ?_
   refine qah (hK _ ?_)
   refine ⟨(s + 1, H2), ⟨by dsimp only; omega, ?_⟩, by dsimp only; omega, ⟨qaO ⟨rfl, rfl, rfl, rfl, rfl, trivial⟩, fun _ _ h => h⟩⟩
   have := h3 hb
   rw [hcs, List.length_append]
   exact this
  rw [if_neg (fun e => hx (Option.some.inj e))] at hcs
  refine b_F rfl rfl rfl rfl rfl (decide_eq_false hx) ?_
  refine b_F rfl rfl rfl rfl rfl rfl ?_
  refine b_F rfl rfl rfl rfl rfl rfl ?_
  refine b_F rfl rfl rfl rfl rfl rfl ?_
  refine bv rfl (qak rfl rfl rfl) ?_
  refine qah (hK _ (AW.to (qa9 (s' := ⟨[(0, .yl id ver), (1, FPg L0 (S : Int) E), (3, slE (eSl eBool) (qbO g S)), (21, .int .i64 (S : Int)), (22, .int .i64 (s : Int)), (61, .bool false)], H1⟩) (qcA ⟨rfl, rfl, rfl, rfl, rfl, rfl, trivial⟩) ?_)))
  clear hK K1
  refine zae rfl (fun hc => by cases hc) (fun _ => ?_)
  refine zac ?_
  refine zab rfl fun K1 hK => ?_
  refine bv rfl (qae rfl rfl qa6) ?_
  rw [hnxt]
  refine mv rfl rfl ?_
  refine qah (hK _ ?_)
  refine ⟨(s + 1, H1), ⟨by dsimp only; omega, ?_⟩, by dsimp only; omega, ⟨qaO ⟨rfl, rfl, rfl, rfl, rfl, trivial⟩, fun _ _ h => h⟩⟩
  dsimp only
  rw [hcs]
  exact hj
 have hc := of_decide_eq_false hc
 obtain rfl : s = S := by omega
 refine AW.exit ?_
 refine ⟨.inl rfl, ?_⟩
 simp only [go_sem, reduceIte, Nat.reduceEqDiff]
 refine ⟨_, _, Conv.refl _ _, hdone _ ?_⟩
 rw [List.length_map, ← h]
 exact hj
theorem qqd {vis rest ks : List (List UInt8)} {k : List UInt8} (hp : (vis ++ rest).Perm ks) (hm : k ∈ ks) (hk : k ∉ vis) : ∃ l1 l2, rest = l1 ++ k :: l2 ∧ ((k :: vis) ++ (l1 ++ l2)).Perm ks := by
 have hx : k ∈ rest := (List.mem_append.1 (hp.mem_iff.2 hm)).resolve_left hk
 obtain ⟨l1, l2, rfl⟩ := List.append_of_mem hx
 refine ⟨l1, l2, rfl, List.Perm.trans ?_ hp⟩
 have e1 : (k :: vis) ++ (l1 ++ l2) = k :: ((vis ++ l1) ++ l2) := by simp
 have e2 : vis ++ (l1 ++ k :: l2) = (vis ++ l1) ++ k :: l2 := by simp
 rw [e1, e2]
 exact List.perm_middle.symm
theorem qrB {vis rest ks : List (List UInt8)} (hn : ks.Nodup) (hp : (vis ++ rest).Perm ks) (hall : ∀ k ∈ ks, k ∈ vis) : rest = [] := by
 cases rest with
 | nil => rfl
 | cons x rest =>
  have h1 := hp.nodup_iff.2 hn
  have hx : x ∈ vis := hall x (hp.mem_iff.1 (by simp))
  exact absurd rfl ((List.nodup_append.1 h1).2.2 x hx x (List.mem_cons_self ..))
theorem w127 {f mid mver lid lver : Nat} {es : List (List UInt8 × HV)} {H : Heap} {K : HV → Heap → Prop} (hn : (es.map (·.1)).Nodup) (hne : f * 1000 + 5 ≠ mid) (hm : hget H mid = some (mver, .map es)) (J : Nat → List (List UInt8) → Heap → Prop)
  (hJm : ∀ iv vis H, J iv vis H → hget H mid = some (mver, .map es)) (hJi : ∀ iv vis H, J iv vis H → ∃ cur, hget H (f * 1000 + 5) = some (iv, .iter mid mver vis cur))
  (h0 : ∀ iv, J iv [] (hset H (f * 1000 + 5) iv (.iter mid mver [] false)))
  (hstep : ∀ iv vis k H, J iv vis H → k ∈ es.map (·.1) → k ∉ vis → vis.length < es.length → YCall Tryz.prog lid lver [.str k] (hset H (f * 1000 + 5) iv (.iter mid mver (k :: vis) true)) fun r H' => r = .bool true ∧ J iv (k :: vis) H')
  (hdone : ∀ iv vis H, J iv vis H → vis.Perm (es.map (·.1)) → K (.tup []) H) : ACall Tryz.prog 186 [.yl lid lver, .fptr [.mp mid mver] 0] H K := by
 refine ACall.of_body Tryz.func186 rfl rfl (Nat.le_of_ble_eq_true rfl) ?_
 unfold Tryz.f186
 dsimp only [qaH, Nat.reduceAdd]
 refine zah (fid := f) (mt := []) [0, 5] rfl fun K1 hK1 => ?_
 simp only [go_sem, reduceIte, Nat.reduceEqDiff, Int.reduceLE, List.getElem?_cons_zero, hm]
 refine ⟨hne, fun iv => hK1 _ ?_⟩
 clear hK1 K1
 refine zaf ?_
 refine AW.loopS (fun p : List (List UInt8) × List (List UInt8) × Heap => ⟨[(0, .yl lid lver), (5, .it (f * 1000 + 5) iv)], p.2.2⟩) (fun p => (p.1 ++ p.2.1).Perm (es.map (·.1)) ∧ J iv p.1 p.2.2) (fun p => p.2.1.length) ([], es.map (·.1), _)
  (AS.le_refl _) ⟨List.Perm.refl _, h0 iv⟩ ?_
 rintro ⟨vis, rest, H1⟩ ⟨hp, hj⟩
 dsimp only at hp hj ⊢
 have hm1 := hJm _ _ _ hj
 obtain ⟨cur, hi1⟩ := hJi _ _ _ hj
 refine zah (fid := f) (mt := []) [0, 5, 7] rfl fun K1 hK1 => ?_
 simp only [go_sem, reduceIte, Nat.reduceEqDiff, Int.reduceLE, hi1, hm1, List.getElem?_cons_zero]
 refine ⟨fun hall => hK1 _ ?_, fun k v hkv hks => hK1 _ ?_⟩
 ·clear hK1 K1
  have hr := qrB hn hp fun k hk => by
   obtain ⟨q, hq, rfl⟩ := List.mem_map.1 hk
   exact hall q hq
  subst hr
  rw [List.append_nil] at hp
  refine zam rfl (fun hc => by cases hc) (fun _ => ?_)
  refine AW.exit ?_
  refine ⟨.inl rfl, ?_⟩
  simp only [go_sem, reduceIte, Nat.reduceEqDiff]
  exact ⟨_, _, Conv.refl _ _, hdone _ _ _ hj hp⟩
 clear hK1 K1
 have hk : k ∈ es.map (·.1) := List.mem_map.2 ⟨_, hkv, rfl⟩
 obtain ⟨l1, l2, rfl, hp'⟩ := qqd hp hk hks
 refine zam rfl (fun _ => ?_) (fun hc => by cases hc)
 refine zac ?_
 refine zaf ?_
 refine zah (fid := f) (mt := []) [0, 3, 5] rfl fun K1 hK1 => ?_
 simp only [go_sem, reduceIte, Nat.reduceEqDiff, Int.reduceLE, qal, hm1, if_neg (Ne.symm hne), List.getElem?_cons_zero]
 refine ⟨v, qgR hn hkv, hK1 _ ?_⟩
 clear hK1 K1
 refine zah (fid := f) (mt := []) [0, 5, 13] rfl fun K1 hK1 => ?_
 simp only [go_sem, reduceIte, Nat.reduceEqDiff, Int.reduceLE]
 refine (hstep iv vis k H1 hj hk hks (by have := hp.length_eq; simp at this; omega)).mono ?_
 rintro r H2 ⟨rfl, hj2⟩
 simp only [go_sem, reduceIte, Nat.reduceEqDiff, Int.reduceLE]
 refine hK1 _ ?_
 clear hK1 K1
 refine zae rfl (fun hc => by cases hc) (fun _ => ?_)
 refine zac ?_
 exact ⟨(k :: vis, l1 ++ l2, H2), ⟨hp', hj2⟩, by simp, ⟨qaO ⟨rfl, rfl, trivial⟩, fun _ _ h => h⟩⟩
theorem zaO {P : Program} {N : Nat} {s : AS} {Q : Exit → AS → Prop} {g : Operand} {ps : Array Tmp} {assign body : Code} {f : FuncId} {fs cs : List HV} (id : Nat) (hg : s.ev g = some (.fn (.func f) fs cs))
  (h : ∀ fn ver (L : LoopState → Option Code → AObj), (∀ st pend, L st pend = .loop st pend fn N s.slots ps assign body) → ACall P f (fs ++ [.yl id ver] ++ cs) (hset s.heap id ver (L .ready none)) fun _ H' =>
   ∃ st pend, hget H' id = some (ver, L st pend) ∧ st ≠ .busy ∧ match pend with
    | none => Q .normal { s with heap := hset H' id ver (L .exhausted none) }
    | some c => AW P none N c Q { s with heap := hset H' id ver (L .exhausted (some c)) }) :
  AW P none N (.rangeFunc g ps assign body) Q s :=
 AW.rangeFunc id hg fun fn ver => h fn ver (fun st pend => .loop st pend fn N s.slots ps assign body) fun _ _ => rfl
set_option maxHeartbeats 1000000 in
theorem w160 {f mid mver : Nat} {es : List (List UInt8 × HV)} (hn : (es.map (·.1)).Nodup) (hbig : es.length ≤ 1099511627776) (h2 : f * 1000 + 2 ≠ mid) (h5 : f * 1000 + 5 ≠ mid) (h11 : f * 1000 + 11 ≠ mid) (h9 : f * 1000 + 900 ≠ mid) :
  ACall Tryz.prog 213 [.v (.slice none 0 0), .fn (.func 186) [] [.fptr [.mp mid mver] 0]] [(mid, mver, .map es)] fun r H' => ∃ l, l.Perm (es.map (·.1)) ∧ ((l = [] ∧ r = .v (.slice none 0 0) ∧ H' = []) ∨
   ∃ id av, l ≠ [] ∧ r = .ar id av 1 0 l.length ∧ H' = [(id, av, .arr 1 9 (l.map .str))]) := by
 refine ACall.of_body Tryz.func213 rfl rfl (Nat.le_of_ble_eq_true rfl) ?_
 unfold Tryz.f213
 dsimp only [qaH, Nat.reduceAdd]
 refine zah (fid := f) (mt := [2]) [1, 2] rfl fun K hK => ?_
 simp only [go_sem, reduceIte, Nat.reduceEqDiff, Int.reduceLE, h2]
 intro bv
 refine hK _ ?_
 clear hK K
 refine zad ?_
 refine zah (fid := f) (mt := [2]) [2, 6] rfl fun K hK => ?_
 simp only [go_sem, reduceIte, Nat.reduceEqDiff, Int.reduceLE]
 refine hK _ ?_
 clear hK K
 refine zaf ?_
 have n95 : f * 1000 + 900 ≠ f * 1000 + 5 := by simp
 have n92 : f * 1000 + 900 ≠ f * 1000 + 2 := by simp
 have n911 : f * 1000 + 900 ≠ f * 1000 + 11 := by simp
 have n52 : f * 1000 + 5 ≠ f * 1000 + 2 := by simp
 have n511 : f * 1000 + 5 ≠ f * 1000 + 11 := by simp
 have n112 : f * 1000 + 11 ≠ f * 1000 + 2 := by simp
 refine zaO (f * 1000 + 900) rfl fun fn lver L hL => ?_
 dsimp only [List.length_cons, List.length_nil, Nat.reduceAdd] at hL ⊢
 refine w127 (f := f) hn h5 (by rw [qal, if_neg (Ne.symm h9)]; exact qcB) (fun iv vis H => hget H mid = some (mver, .map es) ∧ (∃ cur, hget H (f * 1000 + 5) = some (iv, .iter mid mver vis cur)) ∧
  hget H (f * 1000 + 900) = some (lver, L .ready none) ∧
  ((vis = [] ∧ hget H (f * 1000 + 2) = some (bv, .arr 1 22 [.v (.slice none 0 0)])) ∨
   ∃ av, vis ≠ [] ∧ hget H (f * 1000 + 2) = some (bv, .arr 1 22 [.ar (f * 1000 + 11) av 1 0 vis.length]) ∧ hget H (f * 1000 + 11) = some (av, .arr 1 9 (vis.reverse.map .str)))) (fun _ _ _ h => h.1) (fun _ _ _ h => h.2.1) (fun iv => ?_) ?_ ?_
 ·simp [qal, hget, hset, h2, h5, h9, h11, Ne.symm h2, Ne.symm h5, Ne.symm h9, Ne.symm h11]
 ·rintro iv vis k H1 ⟨hm, ⟨cur, hi⟩, hlp, hac⟩ hk hks hlt
  rw [hL] at hlp
  refine ⟨_, _, _, _, _, _, (by rw [qal, if_neg n95]; exact hlp), rfl, by simp, fun l => ?_⟩
  dsimp only [qeq]
  refine AW.region (fid := f) (mt := [2]) [2, 5] rfl fun K hK => ?_
  simp only [go_sem, reduceIte, Nat.reduceEqDiff, Int.reduceLE]
  refine hK _ ?_
  clear hK K
  refine ⟨rfl, by rw [qal, if_neg n95]; exact hlp, ?_⟩
  refine zaf ?_
  have fin : ∀ (av : Nat) (H2 : Heap) (o : AObj), o = L .ready none → hget H2 mid = some (mver, .map es) → hget H2 (f * 1000 + 5) = some (iv, .iter mid mver (k :: vis) true) →
    hget H2 (f * 1000 + 2) = some (bv, .arr 1 22 [.ar (f * 1000 + 11) av 1 0 (vis.length + 1)]) → hget H2 (f * 1000 + 11) = some (av, .arr 1 9 ((k :: vis).reverse.map .str)) →
    HV.bool true = .bool true ∧ hget (hset H2 (f * 1000 + 900) lver o) mid = some (mver, .map es) ∧ (∃ cur, hget (hset H2 (f * 1000 + 900) lver o) (f * 1000 + 5) = some (iv, .iter mid mver (k :: vis) cur)) ∧
  hget (hset H2 (f * 1000 + 900) lver o) (f * 1000 + 900) = some (lver, L .ready none) ∧
  ((k :: vis = [] ∧ hget (hset H2 (f * 1000 + 900) lver o) (f * 1000 + 2) = some (bv, .arr 1 22 [.v (.slice none 0 0)])) ∨
   ∃ av, k :: vis ≠ [] ∧ hget (hset H2 (f * 1000 + 900) lver o) (f * 1000 + 2) = some (bv, .arr 1 22 [.ar (f * 1000 + 11) av 1 0 (k :: vis).length]) ∧ hget (hset H2 (f * 1000 + 900) lver o) (f * 1000 + 11) = some (av, .arr 1 9 ((k :: vis).reverse.map .str))) := by
   intro av H2 o ho g1 g2 g4 g5
   refine ⟨rfl, ?_, ⟨true, ?_⟩, ?_, .inr ⟨av, by simp, ?_, ?_⟩⟩
   ·rw [qal, if_neg (Ne.symm h9)]; exact g1
   ·rw [qal, if_neg (Ne.symm n95)]; exact g2
   ·rw [qal, if_pos rfl, ho]
   ·rw [qal, if_neg (Ne.symm n92)]; exact g4
   rw [qal, if_neg (Ne.symm n911)]; exact g5
  have hm2 : maxLen = 9223372036854775807 := rfl
  rcases hac with ⟨rfl, hb⟩ | ⟨av, _, hb, ha⟩
  ·refine AW.region (fid := f) (mt := [2]) [2, 5] rfl fun K hK => ?_
   simp only [go_sem, reduceIte, Nat.reduceEqDiff, Int.reduceLE, qal, Nat.add_left_cancel_iff, hb, List.getElem?_cons_zero, Nat.add_zero, List.length_nil, List.length_cons, Nat.zero_le, HV.one, zrep, List.replicate_succ, List.replicate_zero, List.flatten_cons, List.flatten_nil,
    List.set_cons_zero, Option.any_some, Nat.reduceAdd, Nat.reduceMul, Nat.reduceLeDiff, Nat.reduceBEq, Bool.or_false, BEq.rfl, List.take_succ_cons, List.take_zero, List.drop_zero]
   refine ⟨by simp [maxLen], fun av' => hK _ ?_⟩
   clear hK K
   refine ⟨?_, fin av' _ _ (hL _ _).symm ?_ ?_ ?_ ?_⟩
   ·rw [qal, if_neg n92, qal, if_neg n911, qal, if_pos rfl]
   ·rw [qal, if_neg (Ne.symm h2), qal, if_neg (Ne.symm h11), qal, if_neg (Ne.symm h9), qal, if_neg (Ne.symm h5)]; exact hm
   ·rw [qal, if_neg n52, qal, if_neg n511, qal, if_neg (Ne.symm n95), qal, if_pos rfl]
   ·rw [qal, if_pos rfl]; rfl
   rw [qal, if_neg n112, qal, if_pos rfl]; simp
  refine AW.region (fid := f) (mt := [2]) [2, 5] rfl fun K hK => ?_
  simp only [go_sem, reduceIte, Nat.reduceEqDiff, Int.reduceLE, qal, Nat.add_left_cancel_iff, hb, ha, List.getElem?_cons_zero, Nat.add_zero, List.length_nil, List.length_cons, Nat.zero_le, HV.one, zrep, List.replicate_succ, List.replicate_zero, List.flatten_cons, List.flatten_nil,
   List.set_cons_zero, Option.any_some, Nat.reduceAdd, Nat.reduceMul, Nat.reduceLeDiff, Nat.reduceBEq, Bool.or_false, BEq.rfl, List.take_succ_cons, List.take_zero, List.drop_zero]
  have hb1 : (vis.length + 1) * 16 ≤ 140737488355328 := by clear fin hL hlp; omega
  have hb2 : vis.length + 1 ≤ maxLen := by clear fin hL hlp; omega
  refine ⟨by simp, hb1, hb2, fun av' => hK _ ?_⟩
  clear hK K
  refine ⟨?_, fin av' _ _ (hL _ _).symm ?_ ?_ ?_ ?_⟩
  ·rw [qal, if_neg n92, qal, if_neg n911, qal, if_pos rfl]
  ·rw [qal, if_neg (Ne.symm h2), qal, if_neg (Ne.symm h11), qal, if_neg (Ne.symm h9), qal, if_neg (Ne.symm h5)]; exact hm
  ·rw [qal, if_neg n52, qal, if_neg n511, qal, if_neg (Ne.symm n95), qal, if_pos rfl]
  ·rw [qal, if_pos rfl]
  rw [qal, if_neg n112, qal, if_pos rfl, List.take_of_length_le (by simp)]; simp
 rintro iv vis H1 ⟨hm, _, hlp, ⟨hv0, hb⟩ | ⟨av, hvn, hb, ha⟩⟩ hp
 ·refine ⟨.ready, none, hlp, by simp, ?_⟩
  dsimp only [qhE, qeD]
  clear hL
  refine zah (fid := f) (mt := [2]) [4] rfl fun K hK => ?_
  simp only [go_sem, reduceIte, Nat.reduceEqDiff, Int.reduceLE, qal, Nat.add_left_cancel_iff, hb, List.getElem?_cons_zero]
  refine hK _ ?_
  clear hK K
  refine AW.ret ⟨.inr rfl, ?_⟩
  simp only [go_sem, reduceIte, Nat.reduceEqDiff]
  exact ⟨_, [], Conv.drop (fun _ _ h => by cases h), [], hv0 ▸ hp, .inl ⟨rfl, rfl, rfl⟩⟩
 refine ⟨.ready, none, hlp, by simp, ?_⟩
 dsimp only [qhE, qeD]
 clear hL
 refine zah (fid := f) (mt := [2]) [4] rfl fun K hK => ?_
 simp only [go_sem, reduceIte, Nat.reduceEqDiff, Int.reduceLE, qal, Nat.add_left_cancel_iff, hb, List.getElem?_cons_zero]
 refine hK _ ?_
 clear hK K
 refine AW.ret ⟨.inr rfl, ?_⟩
 simp only [go_sem, reduceIte, Nat.reduceEqDiff]
 refine ⟨_, [(f * 1000 + 11, av, .arr 1 9 (vis.reverse.map .str))], Conv.drop (qci ⟨?_, trivial⟩), vis.reverse, (List.reverse_perm vis).trans hp, .inr ⟨_, av, by simpa using hvn, by rw [List.length_reverse], rfl⟩⟩
 rw [qal, if_neg (Ne.symm n911)]; exact ha
def nilS : HV := .v (.slice none 0 0)
def qpW (l : List (List UInt8)) : HV := if l = [] then nilS else strs l
theorem w126 {f mid mver : Nat} {es : List (List UInt8 × HV)} (hn : (es.map (·.1)).Nodup) (hbig : es.length ≤ 1099511627776) (h2 : f * 1000 + 2 ≠ mid) (h5 : f * 1000 + 5 ≠ mid) (h11 : f * 1000 + 11 ≠ mid) (h9 : f * 1000 + 900 ≠ mid) :
  ACall Tryz.prog 184 [.fn (.func 186) [] [.fptr [.mp mid mver] 0]] [(mid, mver, .map es)] fun r H' => ∃ l, l.Perm (es.map (·.1)) ∧ ((l = [] ∧ r = .v (.slice none 0 0) ∧ H' = []) ∨
   ∃ id av, l ≠ [] ∧ r = .ar id av 1 0 l.length ∧ H' = [(id, av, .arr 1 9 (l.map .str))]) := by
 refine ACall.of_body Tryz.func184 rfl rfl (Nat.le_of_ble_eq_true rfl) ?_
 unfold Tryz.f184
 dsimp only [qaH, Nat.reduceAdd]
 refine zah (fid := f) (mt := []) [0] rfl fun K hK => ?_
 simp only [go_sem, reduceIte, Nat.reduceEqDiff, Int.reduceLE]
 refine hK _ ?_
 clear hK K
 refine zah (fid := f) (mt := []) [2] rfl fun K hK => ?_
 simp only [go_sem, reduceIte, Nat.reduceEqDiff, Int.reduceLE]
 refine (w160 hn hbig h2 h5 h11 h9).mono ?_
 rintro r H' hr
 refine hK _ ?_
 clear hK K
 refine AW.ret ⟨.inr rfl, ?_⟩
 simp only [go_sem, reduceIte, Nat.reduceEqDiff]
 exact ⟨_, _, Conv.refl _ _, hr⟩
theorem w81 {f mid mver : Nat} {es : List (List UInt8 × HV)} (hn : (es.map (·.1)).Nodup) (hbig : es.length ≤ 1099511627776) (h2 : f * 1000 + 2 ≠ mid) (h5 : f * 1000 + 5 ≠ mid) (h11 : f * 1000 + 11 ≠ mid) (h9 : f * 1000 + 900 ≠ mid) :
  ACall Tryz.prog 144 [.fn (.func 186) [] [.fptr [.mp mid mver] 0]] [(mid, mver, .map es)] fun r H' => (es = [] ∧ r = nilS ∧ H' = []) ∨
   ∃ id av, es ≠ [] ∧ r = .ar id av 1 0 es.length ∧ H' = [(id, av, .arr 1 9 ((sortS (es.map (·.1))).map .str))] := by
 refine ACall.of_body Tryz.func144 rfl rfl (Nat.le_of_ble_eq_true rfl) ?_
 unfold Tryz.f144
 dsimp only [qaH, Nat.reduceAdd]
 refine zah (fid := f) (mt := []) [0] rfl fun K hK => ?_
 simp only [go_sem, reduceIte, Nat.reduceEqDiff, Int.reduceLE]
 refine hK _ ?_
 clear hK K
 refine zah (fid := f) (mt := []) [3] rfl fun K hK => ?_
 simp only [go_sem, reduceIte, Nat.reduceEqDiff, Int.reduceLE]
 refine (w126 hn hbig h2 h5 h11 h9).mono ?_
 rintro r H' ⟨l, hp, ⟨rfl, rfl, rfl⟩ | ⟨id, av, hln, rfl, rfl⟩⟩
 ·refine hK _ ?_
  clear hK K
  have he : es = [] := by
   have := hp.length_eq
   simp only [List.length_nil, List.length_map] at this
   exact List.eq_nil_of_length_eq_zero this.symm
  refine zah (fid := f) (mt := []) [3] rfl fun K hK => ?_
  simp only [go_sem, reduceIte, Nat.reduceEqDiff, Int.reduceLE]
  refine w45n ?_
  refine hK _ ?_
  clear hK K
  refine zah (fid := f) (mt := []) [2] rfl fun K hK => ?_
  simp only [go_sem, reduceIte, Nat.reduceEqDiff, Int.reduceLE]
  refine hK _ ?_
  clear hK K
  refine AW.ret ⟨.inr rfl, ?_⟩
  simp only [go_sem, reduceIte, Nat.reduceEqDiff]
  exact ⟨_, _, Conv.refl _ _, .inl ⟨he, rfl, rfl⟩⟩
 refine hK _ ?_
 clear hK K
 have hlen := hp.length_eq
 rw [List.length_map] at hlen
 refine zah (fid := f) (mt := []) [3] rfl fun K hK => ?_
 simp only [go_sem, reduceIte, Nat.reduceEqDiff, Int.reduceLE]
 refine w45 qcB (by omega) ?_
 simp only [go_sem, reduceIte, Nat.reduceEqDiff, Int.reduceLE]
 refine hK _ ?_
 clear hK K
 refine zah (fid := f) (mt := []) [2] rfl fun K hK => ?_
 simp only [go_sem, reduceIte, Nat.reduceEqDiff, Int.reduceLE]
 refine hK _ ?_
 clear hK K
 refine AW.ret ⟨.inr rfl, ?_⟩
 simp only [go_sem, reduceIte, Nat.reduceEqDiff]
 exact ⟨_, _, Conv.refl _ _, .inr ⟨id, av, by rintro rfl; exact hln (List.eq_nil_of_length_eq_zero hlen), by rw [hlen], by rw [qg6 hp]⟩⟩
theorem w82 {id ver : Nat} {H : Heap} {K : HV → Heap → Prop} (hK : K (.fn (.func 186) [] [.fptr [.mp id ver] 0]) H) : ACall Tryz.prog 145 [.mp id ver] H K := by
 refine ACall.of_body Tryz.func145 rfl rfl (Nat.le_of_ble_eq_true rfl) ?_
 unfold Tryz.f145
 dsimp only [qaH, Nat.reduceAdd]
 refine zah (fid := 82) (mt := []) [1] rfl fun K1 hK1 => ?_
 simp only [go_sem, reduceIte, Nat.reduceEqDiff, Int.reduceLE, HV.one]
 refine hK1 _ ?_
 clear hK1 K1
 refine zah (fid := 82) (mt := []) [2] rfl fun K1 hK1 => ?_
 simp only [go_sem, reduceIte, Nat.reduceEqDiff, Int.reduceLE]
 refine hK1 _ ?_
 clear hK1 K1
 refine AW.ret ⟨.inr rfl, ?_⟩
 simp only [go_sem, reduceIte, Nat.reduceEqDiff]
 exact ⟨_, _, Conv.refl _ _, hK⟩
def qji (stp : List Int → UInt8 → List Int) (cs : List UInt8) (set : List Int) (n : Nat) : HV :=
 if qnM stp cs set n = true then .tup [qpW (sortS ((lvl stp cs set n).map (·.1))), .int .i64 0] else .tup [nilS, .int .i64 4]
theorem qlH (stp : List Int → UInt8 → List Int) (cs : List UInt8) (set : List Int) (n : Nat) : clean (qji stp cs set n) := by
 unfold qji qpW
 split
 ·split
  ·exact ⟨trivial, trivial, trivial⟩
  exact ⟨qnV _, trivial, trivial⟩
 exact ⟨trivial, trivial, trivial⟩
set_option maxHeartbeats 1000000 in
theorem w36 {L n : Nat} {gS gE : HV} {stp : List Int → UInt8 → List Int} {set : List Int} {A : List Int → Prop} (hL : L ≤ 16) (h1g : gS.one = true) (h1e : gE.one = true) (hA0 : A set) (hA : ∀ a c, A a → c ∈ letters.take L → A (stp a c))
  (hstep : ∀ a c, A a → c ∈ letters.take L → Pure Tryz.prog 111 [.agg [num L, gS, gE], ints a, .int .u8 c.toNat] (· = ints (stp a c))) (h78 : Pure Tryz.prog 142 [.agg [num L, gS, gE], num n] (· = .int .i64 0)) (h80 : Pure Tryz.prog 62 [.agg [num L, gS, gE]] (· = ints set)) :
  Fresh Tryz.prog 96 [.agg [num L, gS, gE], num n] (qji stp (letters.take L) set n) := by
 refine Fresh.of_body 2 Tryz.func96 rfl rfl (Nat.le_of_ble_eq_true rfl) (qlH _ _ _ _) fun hf => ?_
 have h79 := w79 (n := n) hL h1g h1e hA0 hA hstep
 unfold Tryz.f96
 dsimp only [qaH, Nat.reduceAdd]
 simp only [num] at h78 h80 h79 ⊢
 refine zah (fid := 36) (mt := []) [1, 2] rfl fun K hK => ?_
 simp only [go_sem, reduceIte, Nat.reduceEqDiff, Int.reduceLE]
 refine hK _ ?_
 clear hK K
 refine zad ?_
 refine zah (fid := 36) (mt := []) [1, 2, 6] rfl fun K hK => ?_
 simp only [go_sem, reduceIte, Nat.reduceEqDiff, Int.reduceLE, List.length_nil, List.length_cons, Nat.reduceAdd, Nat.reduceLeDiff, List.drop_zero, List.take_succ_cons, List.take_zero]
 refine h78.use fun r hr => ?_
 subst hr
 refine hK _ ?_
 clear hK K
 refine zah (fid := 36) (mt := []) [1, 2, 6, 13] rfl fun K hK => ?_
 simp only [go_sem, reduceIte, Nat.reduceEqDiff, Int.reduceLE]
 refine hK _ ?_
 clear hK K
 refine zae rfl (fun hc => by simp at hc) (fun _ => ?_)
 refine zac ?_
 refine zad (AW.any follows ?_)
 refine zap (q := 0) 4 (AnyAt _ _ _ _ _ 4) rfl rfl (by decide) (by decide) rfl rfl (fun _ h => h) ?_
 dsimp only [List.take, List.drop, Nat.sub_zero]
 simp only [go_sem, reduceIte, Nat.reduceEqDiff, Int.reduceLE, List.length_nil, List.length_cons, Nat.reduceAdd, Nat.reduceLeDiff, List.drop_zero, List.take_succ_cons, List.take_zero]
 refine ⟨_, zai h80, ?_⟩
 refine AnyAt.op rfl (by decide) rfl (AOpI.plain rfl rfl (qeo (fid := 36) (mt := []) rfl ?_))
 dsimp only [List.getElem_toArray, List.getElem_cons_succ, List.getElem_cons_zero]
 simp only [go_sem, ints, reduceIte, Nat.reduceEqDiff, Int.reduceLE, List.length_nil, List.length_cons, Nat.reduceAdd, Nat.reduceLeDiff, List.drop_zero, List.take_succ_cons, List.take_zero, List.getElem?_cons_zero, List.getElem?_cons_succ]
 simp only [ints] at h79
 refine h79.mono ?_
 rintro r H' (⟨hok, id, ver, es, rfl, rfl, hes⟩ | ⟨j, h1, h2, h3, rfl, rfl⟩)
 ·have hok' := qfB.2 hok
  refine zap (q := 5) 10 (AnyAt _ _ _ _ _ 10) rfl rfl (by decide) (by decide) rfl rfl (fun _ h => h) ?_
  dsimp only [Nat.reduceSub, List.take, List.drop]
  simp only [go_sem, reduceIte, Nat.reduceEqDiff, Int.reduceLE, Nat.reduceSub, List.length_nil, List.length_cons, Nat.reduceAdd, Nat.reduceLeDiff, List.drop_zero, List.take_succ_cons, List.take_zero, List.getElem?_cons_zero, List.getElem?_cons_succ]
  refine AnyAt.done rfl ?_
  refine zad ?_
  refine zah (fid := 36) (mt := []) [7, 24] rfl fun K hK => ?_
  simp only [go_sem, reduceIte, Nat.reduceEqDiff, Int.reduceLE]
  refine hK _ ?_
  clear hK K
  refine zae rfl (fun hc => by simp at hc) (fun _ => ?_)
  refine zac ?_
  refine zah (fid := 36) (mt := []) [4, 5] rfl fun K hK => ?_
  simp only [go_sem, reduceIte, Nat.reduceEqDiff, Int.reduceLE]
  refine w82 ?_
  have hkn : (es.map (·.1)).Nodup := qiK hes (qh7 (letters_nodup.sublist (List.take_sublist _ _)) n)
  have hlen : es.length = (lvl stp (letters.take L) set n).length := by rw [hes.length_eq, List.length_map]
  have hbig : es.length ≤ 1099511627776 := by
   rw [hlen]
   cases n with
   | zero => simp only [lvl]; split <;> simp
   | succ n => have := hok (n + 1) (by omega) (Nat.le_refl _); omega
  have hsk : sortS (es.map (·.1)) = sortS ((lvl stp (letters.take L) set n).map (·.1)) := by
   refine qg6 ?_
   have := hes.map (·.1)
   rw [List.map_map] at this
   exact this
  refine (w81 (f := id + 1) hkn hbig (by omega) (by omega) (by omega) (by omega)).mono ?_
  rintro r H' (⟨he, rfl, rfl⟩ | ⟨id', av, hen, rfl, rfl⟩)
  ·refine hK _ ?_
   clear hK K
   refine AW.ret ⟨.inr rfl, ?_⟩
   simp only [go_sem, reduceIte, Nat.reduceEqDiff]
   have hl0 : lvl stp (letters.take L) set n = [] := List.eq_nil_of_length_eq_zero (by rw [← hlen, he]; rfl)
   refine ⟨_, _, Conv.refl _ _, rfl, rfl, ?_⟩
   simp only [qji, hok', if_true, hl0, List.map_nil, sortS, List.mergeSort_nil, qpW, frz, List.map_cons]
   rfl
  refine hK _ ?_
  clear hK K
  refine AW.ret ⟨.inr rfl, ?_⟩
  simp only [go_sem, reduceIte, Nat.reduceEqDiff]
  refine ⟨_, _, Conv.refl _ _, rfl, ?_, ?_⟩
  ·simp only [nfH, nfO, Bool.and_true]
   have : ∀ l : List (List UInt8), nfL (l.map HV.str) = true := fun l => by
    induction l with
    | nil => rfl
    | cons a l ih => simp only [List.map_cons, nfL, nf, ih, Bool.and_self]
   exact this _
  have hne : sortS ((lvl stp (letters.take L) set n).map (·.1)) ≠ [] := by
   intro h0
   have h1 := congrArg List.length h0
   rw [qbN, List.length_map, ← hlen] at h1
   exact hen (List.eq_nil_of_length_eq_zero h1)
  have hll : (sortS (es.map (·.1))).length = es.length := by rw [qbN, List.length_map]
  have hfr : frz 2 [(id', av, AObj.arr 1 9 ((sortS (es.map (·.1))).map HV.str))] (.tup [.ar id' av 1 0 es.length, .int .i64 0]) = .tup [.sl 1 es.length ((sortS (es.map (·.1))).map HV.str), .int .i64 0] := by
   have h5 : ((sortS (es.map (·.1))).map HV.str).length = es.length := by rw [List.length_map, hll]
   simp only [frz, List.map_cons, List.map_nil, qcB, Nat.zero_add, Nat.mul_one, h5, Nat.le_refl, and_self, if_true, List.drop_zero]
   rw [← h5, List.take_length]
   rw [List.map_id']
  refine hfr.trans ?_
  rw [hsk] at hll ⊢
  simp only [qji, hok', if_true, qpW, if_neg hne, strs]
  rw [hll]
 have hok' : ¬ qnM stp (letters.take L) set n = true := fun h => by
  have := qfB.1 h j h1 h2
  omega
 refine zap (q := 5) 10 (AnyAt _ _ _ _ _ 10) rfl rfl (by decide) (by decide) rfl rfl (fun _ h => h) ?_
 dsimp only [Nat.reduceSub, List.take, List.drop]
 simp only [go_sem, reduceIte, Nat.reduceEqDiff, Int.reduceLE, Nat.reduceSub, List.length_nil, List.length_cons, Nat.reduceAdd, Nat.reduceLeDiff, List.drop_zero, List.take_succ_cons, List.take_zero, List.getElem?_cons_zero, List.getElem?_cons_succ]
 refine AnyAt.done rfl ?_
 refine zad ?_
 refine zah (fid := 36) (mt := []) [7, 24] rfl fun K hK => ?_
 simp only [go_sem, reduceIte, Nat.reduceEqDiff, Int.reduceLE]
 refine hK _ ?_
 clear hK K
 refine zae rfl (fun _ => ?_) (fun hc => by simp at hc)
 refine zah (fid := 36) (mt := []) [4, 5] rfl fun K hK => ?_
 simp only [go_sem, reduceIte, Nat.reduceEqDiff, Int.reduceLE]
 refine hK _ ?_
 clear hK K
 refine AW.ret ⟨.inr rfl, ?_⟩
 simp only [go_sem, reduceIte, Nat.reduceEqDiff]
 refine ⟨_, _, Conv.refl _ _, rfl, rfl, ?_⟩
 simp only [qji, if_neg hok', frz, List.map_cons]
 rfl
theorem qjH {g : qaa} {set : List Int} (h : qmz g set) : ∃ A : List Int → Prop, A set ∧ (∀ a c, A a → c ∈ letters.take g.1.toNat → A (stpM g a c)) ∧
  ∀ a c, A a → c ∈ letters.take g.1.toNat → Pure Tryz.prog 111 [HV.agg [HV.int .i64 g.1, HV.int .i64 g.2.1, slE eFromLabelTo g.2.2], ints a, .int .u8 c.toNat] (· = ints (stpM g a c)) := by
 obtain ⟨A, h0, hs⟩ := h
 refine ⟨A, h0, fun a c ha hc => ?_, fun a c ha hc => ?_⟩
 ·obtain ⟨b, hb, hA⟩ := hs a c ha hc
  simp only [stpM, hb, Option.getD_some]
  exact hA
 obtain ⟨b, hb, hA⟩ := hs a c ha hc
 simp only [stpM, hb, Option.getD_some]
 exact qfp hb
theorem qr4 {g : qaa} {set : List Int} {n : Int} {x : List WS × Bool} (h : qbH g set n = some x) (hx : x.2 = true) {K : HV → Heap → Prop}
  (hK : ∀ id ver es, es.Perm (x.1.map ent) ∧ (x.1.map (·.1)).Nodup ∧ x.1.length ≤ 1099511627776 → K (.tup [.mp id ver, .bool true]) [(id, ver, .map es)]) : ACall Tryz.prog 143 [HV.agg [HV.int .i64 g.1, HV.int .i64 g.2.1, slE eFromLabelTo g.2.2], slE eInt set, .int .i64 n] [] K := by
 unfold qbH at h
 split at h
 ·rename_i hc
  obtain ⟨h1, h2, h3, h4⟩ := hc
  cases h
  split at hx
  ·rename_i hok
   rw [if_pos hok] at hK
   obtain ⟨A, hA0, hA, hstep⟩ := qjH h4
   obtain ⟨gl, gs, ge⟩ := g
   try dsimp only at h1
   try dsimp only at h2
   try dsimp only at hA
   try dsimp only at hstep
   try dsimp only at hok
   try dsimp only
   try dsimp only at hK
   obtain ⟨L, rfl⟩ := Int.eq_ofNat_of_zero_le h1
   obtain ⟨m, rfl⟩ := Int.eq_ofNat_of_zero_le h3
   simp only [Int.toNat_natCast] at hok hK hA hstep
   refine (w79 (L := L) (n := m) (gS := HV.int .i64 gs) (gE := slE eFromLabelTo ge) (by omega) rfl rfl hA0 hA hstep).mono ?_
   rintro r H' (⟨hok', id, ver, es, rfl, rfl, hes⟩ | ⟨j, j1, j2, j3, rfl, rfl⟩)
   ·refine hK id ver es ⟨hes, qh7 (letters_nodup.sublist (List.take_sublist _ _)) m, ?_⟩
    cases m with
    | zero => simp only [lvl]; split <;> simp
    | succ m => have := hok' (m + 1) (by omega) (Nat.le_refl _); omega
   have := qfB.1 hok j j1 j2
   omega
  cases hx
 cases h
theorem qr5 {g : qaa} {set : List Int} {n : Int} {x : List WS × Bool} (h : qbH g set n = some x) (hx : ¬ x.2 = true) {K : HV → Heap → Prop}
  (hK : K (.tup [.v (.map none), .bool false]) []) : ACall Tryz.prog 143 [HV.agg [HV.int .i64 g.1, HV.int .i64 g.2.1, slE eFromLabelTo g.2.2], slE eInt set, .int .i64 n] [] K := by
 unfold qbH at h
 split at h
 ·rename_i hc
  obtain ⟨h1, h2, h3, h4⟩ := hc
  cases h
  split at hx
  ·exact absurd rfl hx
  rename_i hok
  obtain ⟨A, hA0, hA, hstep⟩ := qjH h4
  obtain ⟨gl, gs, ge⟩ := g
  try dsimp only at h1
  try dsimp only at h2
  try dsimp only at hA
  try dsimp only at hstep
  try dsimp only at hok
  try dsimp only
  obtain ⟨L, rfl⟩ := Int.eq_ofNat_of_zero_le h1
  obtain ⟨m, rfl⟩ := Int.eq_ofNat_of_zero_le h3
  simp only [Int.toNat_natCast] at hok hA hstep
  refine (w79 (L := L) (n := m) (gS := HV.int .i64 gs) (gE := slE eFromLabelTo ge) (by omega) rfl rfl hA0 hA hstep).mono ?_
  rintro r H' (⟨hok', id, ver, es, rfl, rfl, hes⟩ | ⟨j, j1, j2, j3, rfl, rfl⟩)
  ·exact absurd (qfB.2 hok') hok
  exact hK
 cases h
theorem qlI {id ver : Nat} {es : List (List UInt8 × HV)} {l : List WS} (hes : es.Perm (l.map ent) ∧ (l.map (·.1)).Nodup ∧ l.length ≤ 1099511627776) {K : HV → Heap → Prop} (hK : K (slE eStr (sortS (l.map (·.1)))) []) :
  ACall Tryz.prog 144 [.fn (.func 186) [] [.fptr [.mp id ver] 0]] [(id, ver, .map es)] K := by
 obtain ⟨hp, hn, hb⟩ := hes
 have hlen : es.length = l.length := by rw [hp.length_eq, List.length_map]
 have hsk : sortS (es.map (·.1)) = sortS (l.map (·.1)) := by
  refine qg6 ?_
  have := hp.map (·.1)
  rw [List.map_map] at this
  exact this
 refine (w81 (f := id + 1) (qiK hp hn) (by omega) (by omega) (by omega) (by omega) (by omega)).conv' ?_
 rintro r H' (⟨he, rfl, rfl⟩ | ⟨id', av, hen, rfl, rfl⟩)
 ·have hl : l = [] := List.eq_nil_of_length_eq_zero (by rw [← hlen, he]; rfl)
  subst hl
  have e0 : sortS (([] : List WS).map (·.1)) = [] := List.eq_nil_of_length_eq_zero (by rw [qbN]; rfl)
  rw [e0] at hK
  exact ⟨slE eStr [], [], Conv.le (.nil 1), hK⟩
 refine ⟨_, [], Conv.all 2, ?_⟩
 have e : es.length = (sortS (es.map (·.1))).length := by rw [qbN, List.length_map]
 rw [e]
 have hf := qbw eStr (D := [(id', av, .arr 1 9 ((sortS (es.map (·.1))).map .str))]) (l := sortS (es.map (·.1))) qcB (fun _ _ => rfl)
 have hk2 := hK
 rw [← hsk, ← hf] at hk2
 exact hk2
end Go.AW
namespace Go.Proofs
open Go
def zat : Go.Shelf.Ren := ⟨fun | 105 => 146 | 212 => 187 | 99 => 26 | 165 => 188 | 166 => 54 | 170 => 189 | 169 => 59 | 263 => 215 | 264 => 216 | 206 => 74 | 240 => 107 | 241 => 217 | 276 => 157 | 277 => 243 | n => n, fun | 9 => 9 | 3 => 3 | 4 => 4 | 20 => 20 | 0 => 0 | 46 => 97 | 109 => 184 | 5 => 5 | 72 => 80 | 76 => 83 | 51 => 105 | 146 => 212 | 53 => 103 | 148 => 214 | 70 => 78 | 37 => 28 | 75 => 82 | 127 => 134 | 164 => 166 | 80 => 90 | n => n, fun | n => n⟩
theorem Tryz.strRep : Go.Proofs.Lays.n105 Tryz.prog zat where
 mixed := by kernel_rfl
 f99 := Tryz.func26.trans (congrArg some (by kernel_rfl))
 f105 := Tryz.func146.trans (congrArg some (by kernel_rfl))
 f165 := Tryz.func188.trans (congrArg some (by kernel_rfl))
 f166 := Tryz.func54.trans (congrArg some (by kernel_rfl))
 f169 := Tryz.func59.trans (congrArg some (by kernel_rfl))
 f170 := Tryz.func189.trans (congrArg some (by kernel_rfl))
 f206 := Tryz.func74.trans (congrArg some (by kernel_rfl))
 f212 := Tryz.func187.trans (congrArg some (by kernel_rfl))
 f240 := Tryz.func107.trans (congrArg some (by kernel_rfl))
 f241 := Tryz.func217.trans (congrArg some (by kernel_rfl))
 f263 := Tryz.func215.trans (congrArg some (by kernel_rfl))
 f264 := Tryz.func216.trans (congrArg some (by kernel_rfl))
 f276 := Tryz.func157.trans (congrArg some (by kernel_rfl))
 f277 := Tryz.func243.trans (congrArg some (by kernel_rfl))
 t0 := Tryz.underlying0
 a0 := Tryz.isAgg0
 z0 := Tryz.sizeOf0
 v0 := Tryz.zeroValue0
 t3 := Tryz.underlying3
 a3 := Tryz.isAgg3
 z3 := Tryz.sizeOf3
 v3 := Tryz.zeroValue3
 t4 := Tryz.underlying4
 a4 := Tryz.isAgg4
 z4 := Tryz.sizeOf4
 v4 := Tryz.zeroValue4
 t5 := Tryz.underlying5
 a5 := Tryz.isAgg5
 z5 := Tryz.sizeOf5
 v5 := Tryz.zeroValue5
 t9 := Tryz.underlying9
 a9 := Tryz.isAgg9
 z9 := Tryz.sizeOf9
 v9 := Tryz.zeroValue9
 t20 := Tryz.underlying20
 a20 := Tryz.isAgg20
 z20 := Tryz.sizeOf20
 v20 := Tryz.zeroValue20
 t37 := Tryz.underlying28
 a37 := Tryz.isAgg28
 z37 := Tryz.sizeOf28
 v37 := Tryz.zeroValue28
 t46 := Tryz.underlying97
 a46 := Tryz.isAgg97
 z46 := Tryz.sizeOf97
 v46 := Tryz.zeroValue97
 t51 := Tryz.underlying105
 a51 := Tryz.isAgg105
 z51 := Tryz.sizeOf105
 v51 := Tryz.zeroValue105
 t53 := Tryz.underlying103
 a53 := Tryz.isAgg103
 z53 := Tryz.sizeOf103
 v53 := Tryz.zeroValue103
 t70 := Tryz.underlying78
 a70 := Tryz.isAgg78
 z70 := Tryz.sizeOf78
 v70 := Tryz.zeroValue78
 t72 := Tryz.underlying80
 a72 := Tryz.isAgg80
 z72 := Tryz.sizeOf80
 v72 := Tryz.zeroValue80
 t75 := Tryz.underlying82
 a75 := Tryz.isAgg82
 z75 := Tryz.sizeOf82
 v75 := Tryz.zeroValue82
 t76 := Tryz.underlying83
 a76 := Tryz.isAgg83
 z76 := Tryz.sizeOf83
 v76 := Tryz.zeroValue83
 t109 := Tryz.underlying184
 a109 := Tryz.isAgg184
 z109 := Tryz.sizeOf184
 v109 := Tryz.zeroValue184
 t127 := Tryz.underlying134
 a127 := Tryz.isAgg134
 z127 := Tryz.sizeOf134
 v127 := Tryz.zeroValue134
 t146 := Tryz.underlying212
 a146 := Tryz.isAgg212
 z146 := Tryz.sizeOf212
 v146 := Tryz.zeroValue212
 t148 := Tryz.underlying214
 a148 := Tryz.isAgg214
 z148 := Tryz.sizeOf214
 v148 := Tryz.zeroValue214
 t164 := Tryz.underlying166
 a164 := Tryz.isAgg166
 z164 := Tryz.sizeOf166
 v164 := Tryz.zeroValue166
end Go.Proofs
namespace Go.Proofs
open Go
theorem Tryz.bldX : Go.Proofs.Builder.Extra Tryz.prog zat where
 sizeBuilder := by kernel_rfl
 liesBuilder := by kernel_rfl
 t5 := Tryz.underlying5
 a5 := Tryz.isAgg5
 z5 := Tryz.sizeOf5
 v5 := Tryz.zeroValue5
 infoByte := by kernel_rfl
 cellsByte := by kernel_rfl
 sizeByte := by kernel_rfl
 neB5 := by decide
end Go.Proofs
namespace Go.AW
open Go Go.Proofs Go.Lib
theorem qmU : ∀ (s : List UInt8) (n : Nat), Lib.repeatL s n = (List.replicate n s).flatten
 | s, 0 => rfl
 | s, n + 1 => by rw [List.replicate_succ, List.flatten_cons, ← qmU s n]; rfl
theorem qlw (s : List UInt8) : ∀ m : Nat, (List.replicate m s).flatten.length = m * s.length
 | 0 => by simp
 | m + 1 => by rw [List.replicate_succ, List.flatten_cons, List.length_append, qlw s m, Nat.succ_mul]; omega
theorem qhI {s r : List UInt8} {n : Int} (h : qcY s n = some r) : Pure Tryz.prog 146 [HV.str s, HV.int .i64 n] (· = HV.str r) := by
 unfold qcY at h
 split at h
 ·rename_i hc
  obtain ⟨h0, h1, h2⟩ := hc
  cases h
  obtain ⟨m, rfl⟩ := Int.eq_ofNat_of_zero_le h0
  simp only [Int.toNat_natCast] at h2 ⊢
  refine ⟨qdo Tryz.func146 rfl rfl, fun μ w vs hs hr _ => ?_⟩
  obtain ⟨x, xs, rfl, ⟨rfl, hl⟩, y, ys, rfl, ⟨rfl, _⟩, hn⟩ := hr
  cases hn
  refine (Any.strings_Repeat Tryz.strRep Tryz.bldX ⟨s.toArray⟩ m w (by omega) (by simpa [ByteArray.size] using h2)).mono ?_
  rintro e w' ⟨rfl, hbel⟩
  have hg : Grow w w' := ⟨⟨hbel.os, hbel.tape, hbel.output⟩, hbel.size, hbel.block⟩
  refine ⟨_, .str (List.replicate m s).flatten, [], μ, rfl, ⟨rfl, trivial, rfl⟩, hs.grow hg, ⟨?_, ?_⟩, Evo.grow hs hg⟩
  ·rw [← qmU]
  rw [qlw, Nat.mul_comm]
  simp only [maxLen]
  omega
 cases h
end Go.AW
namespace Go.Proofs
open Go
theorem zaM (n : Nat) (hn : 2 ≤ n) : liesAt Tryz.prog Tryz.prog.depth 80 (n / Tryz.prog.cellsOf 80) 0 80 1 = true := by
 have hc : Tryz.prog.cellsOf 80 = 2 := by kernel_rfl
 have hd : Tryz.prog.depth = (2 * (Tryz.prog.types.size + Made.depth) + 1) + 1 := rfl
 rw [hd]
 simp only [liesAt, Bool.or_eq_true]
 left
 rw [hd]
 have : 1 ≤ n / 2 := by omega
 simp [rowAt, hc, sameLayout, this]
set_option maxHeartbeats 1000000 in
set_option maxRecDepth 100000 in
theorem zaw (b n : Nat) (w : World) (h0 : w.cell? ⟨b, 0, none⟩ = some (.pointer none)) (hsh : w.shape? b = some (80, n)) (hn : 2 ≤ n) (hfz : w.frozen? ⟨b, 0, none⟩ = false) :
  Calls Tryz.prog 107 #[.pointer (some ⟨b, 0, none⟩)] w fun e w' => e = .returned (.tuple #[]) ∧ w' = w.setCell ⟨b, 0, none⟩ (.pointer (some ⟨b, 0, none⟩)) := by
 obtain ⟨j, hj, hjs⟩ := Option.map_eq_some_iff.1 (show (Tryz.prog.info? 80).map (·.size) = some 2 by kernel_rfl)
 have hlies := zaM n hn
 go_enter Tryz.func107, Tryz.ntmps107
 go_wp2
 rw [Lib.run_to_unsafe w ⟨b, 0, none⟩ Tryz.underlying78 Tryz.underlying166 hj (by rw [hjs]; decide) hsh (by show 0 < n; omega)]
 simp only [Result.andThen]
 rw [Oper.upon_value]
 go_wp2
 rw [run_callFunc_extern Tryz.func157 (by kernel_rfl) (by kernel_rfl) (by kernel_rfl) (e := Extern.AbiNoEscape.same) (by kernel_rfl), Lib.run_noEscape]
 simp only [Result.andThen]
 rw [Oper.upon_value]
 go_wp2
 rw [Lib.run_from_unsafe w ⟨b, 0, none⟩ Tryz.underlying166 Tryz.underlying78 hj hsh hlies]
 simp only [Result.andThen]
 rw [Oper.upon_value]
 go_wp2
 go_end0
 exact ⟨rfl, rfl⟩
set_option maxHeartbeats 1000000 in
set_option maxRecDepth 100000 in
theorem zay (b : Nat) (w : World) (h0 : w.cell? ⟨b, 0, none⟩ = some (.pointer (some ⟨b, 0, none⟩))) :
  Calls Tryz.prog 107 #[.pointer (some ⟨b, 0, none⟩)] w fun e w' => e = .returned (.tuple #[]) ∧ w' = w := by
 obtain ⟨j, hj, _⟩ := Option.map_eq_some_iff.1 (show (Tryz.prog.info? 80).map (·.size) = some 2 by kernel_rfl)
 go_enter Tryz.func107, Tryz.ntmps107
 go_wp2
 rw [Lib.run_neq_ptr_same w _ Tryz.underlying78 hj]
 go_wp2
 go_end0
 exact ⟨rfl, rfl⟩
end Go.Proofs
namespace Go.AW
open Go Go.Proofs Go.Lib
def bldP (u : Bool) (id ver : Nat) : HV := if u then .ptr id ver 0 else .v (.pointer none)
theorem qmv {H : Heap} {K : HV → Heap → Prop} {id ver : Nat} {u : Bool} {s : HV} (hg : hget H id = some (ver, .arr 2 80 [bldP u id ver, s])) (hK : K (.tup []) ((id, ver, .arr 2 80 [.ptr id ver 0, s]) :: H)) :
  ACall Tryz.prog 107 [.ptr id ver 0] H K := by
 refine ⟨qdo Tryz.func107 rfl rfl, fun μ w vs hs hr _ => ?_⟩
 obtain ⟨x, xs, rfl, hr, hn⟩ := hr
 cases hn
 obtain ⟨lo, hl, hor⟩ := hs.has _ _ _ hg
 have hle : ∀ ob j (y : Nat × AObj), hget ((id, ver, ob) :: H) j = some y ↔ hget (hset H id ver ob) j = some y := fun ob j y => by simp only [hget, qal]
 rcases hr with ⟨b, hl', rfl⟩ | ⟨hd, _⟩
 ·rw [hl] at hl'
  cases hl'
  obtain ⟨h1, cur, vs', rest, hrow, hcl, hrl⟩ := hor
  obtain ⟨v0, vs1, rfl, r0, v1, vs2, rfl, r1, hn⟩ := hrl
  cases hn
  have hrow2 := hrow
  obtain ⟨lo', hi', hbk, hfr⟩ := hrow2
  have hsz : 2 ≤ cur.size := by rw [← Array.length_toList, hcl]; simp
  have hc0 : cur[0]? = some v0 := by rw [← Array.getElem?_toList, hcl]; rfl
  have hcell : w.cell? ⟨b, 0, none⟩ = some v0 := by rw [Lib.cell_of_heap hbk]; exact hc0
  cases u with
  | false =>
   obtain rfl : v0 = .pointer none := r0
   refine (zaw b cur.size w hcell (by simp [World.shape?, hbk]) hsz (hrow.free (by omega))).mono ?_
   rintro e w' ⟨rfl, rfl⟩
   have hbk' : (w.setCell ⟨b, 0, none⟩ (.pointer (some ⟨b, 0, none⟩))).heap[b]? = some (.cells (cur.setIfInBounds 0 (.pointer (some ⟨b, 0, none⟩))) 80 (lo', hi')) := by
    show (w.heap.modify b _)[b]? = _
    rw [Array.getElem?_modify, if_pos rfl, hbk]
    rfl
   obtain ⟨hsr, hE⟩ := hs.updArr (w' := w.setCell ⟨b, 0, none⟩ (.pointer (some ⟨b, 0, none⟩))) (cs' := [.ptr id ver 0, s]) hg hl ⟨rfl, rfl, rfl⟩ (by show (w.heap.modify b _).size = _; simp) (fun b' hne => by
    show (w.heap.modify b _)[b']? = _
    rw [Array.getElem?_modify, if_neg (fun e => hne e.symm)]) hrow ⟨lo', hi', hbk', by simpa using hfr⟩ (by simp) fun E => by
     refine ⟨fun c hc => ?_, _, [.pointer (some ⟨b, 0, none⟩), v1], rest, ⟨lo', hi', hbk', by simpa using hfr⟩, ?_, ?_⟩
     ·rcases List.mem_cons.1 hc with rfl | hc
      ·rfl
      exact h1 c (List.mem_cons_of_mem _ hc)
     ·rw [Array.toList_setIfInBounds, hcl]; rfl
     exact ⟨_, _, rfl, .inl ⟨b, hl, rfl⟩, _, _, rfl, Rep.evo E hs.ok _ _ r1, rfl⟩
   exact ⟨_, .tup [], _, μ, rfl, hK, hsr.le (hle _), ⟨[], rfl, rfl⟩, hE⟩
  | true =>
   rcases r0 with ⟨b', hl2, rfl⟩ | ⟨hd, _⟩
   ·rw [hl] at hl2
    cases hl2
    refine (zay b w hcell).mono ?_
    rintro e w' ⟨rfl, rfl⟩
    exact ⟨_, .tup [], _, μ, rfl, hK, (hs.same hg).le (hle _), ⟨[], rfl, rfl⟩, Evo.refl _ _⟩
   exact absurd hl (hd.2 _)
 exact absurd hl (hd.2 _)
end Go.AW
namespace Go.AW
open Go
abbrev eByte : EncL UInt8 := encM fun b => HV.int .u8 (b.toNat : Int)
section
variable {P : Program} {ro : Option Nat} {N : Nat} {s : AS} {o : Oper} {sl : List (Nat × HV)} {H : Heap} {all : Array Oper} {rest : List Oper} {K : AS → Prop}
theorem qsA {d : Nat} {t xt e : TypeId} {a b a2 b2 : Nat} {z z2 : Value} {aa : Array Operand} {ts : Array TypeId} {x y : Operand} {Te : TyI} {l m : List UInt8} {id ver : Nat} (h0 : (o.dst, o.op) = (some d, .call ⟨.builtin .append, aa, ts⟩)) (ha : (aa.toList, ts.toList) = ([x, y], [t, xt])) (hT : ty P t = some ⟨.slice e, a, b, z⟩) (hxt : ty P xt = some ⟨.string, a2, b2, z2⟩) (hTe : ty P e = some Te)
  (hx : s.ev x = some (.ar id ver eByte.k 0 l.length)) (hg : hget s.heap id = some (ver, .arr eByte.k e (eByte.E l))) (hy : s.ev y = some (.str m)) (hk : Te.size = 1) (hz : (qa8 Te.zero).any (fun zs => zs.length == Te.size) = true) (h : fits Te.bytes (l.length + m.length))
  (k : ∀ ver', bops P ro N all rest K ⟨(d, .ar id ver' eByte.k 0 (l ++ m).length) :: s.slots, (id, ver', .arr eByte.k e (eByte.E (l ++ m))) :: s.heap⟩) : aop P 0 [] o (fun s' => bops P ro N all rest K s') s := by
 obtain ⟨h3, h4⟩ := Prod.mk.inj h0
 obtain ⟨h5, h6⟩ := Prod.mk.inj ha
 have ek : eByte.k = 1 := rfl
 refine qld (n := l.length) (m := m.length) (cs := eByte.E l) (ds := eByte.E m) h4 h5 h6 hT hx hy hTe hz ?_ ?_ h ?_
 ·simp only [qfY, hg]
  refine ⟨trivial, hk.symm, trivial, trivial, ?_, trivial, ?_⟩
  ·rw [hk, eByte.len]; exact Nat.le_refl _
  rw [hk]
  show (eByte.E l).take (l.length * eByte.k) = _
  rw [eByte.take, List.take_length]
 ·simp only [asrc, hxt]
  exact ⟨hk, trivial, rfl⟩
 intro ver'
 have e1 : qbq (.ar id ver eByte.k 0 l.length) (cid 0 o.dst) = id := rfl
 have e2 : eByte.E l ++ eByte.E m = eByte.E (l ++ m) := (eByte.append l m).symm
 rw [e1, h3, hk, e2]
 have e3 : (l ++ m).length = l.length + m.length := List.length_append
 have := k ver'
 rw [e3] at this
 exact qbx (qiJ id ver' _ d _) this
end
open Go.Proofs
def bldO (id ver aid aver : Nat) (u : Bool) (l : List UInt8) : AObj := .arr 2 80 [bldP u id ver, .ar aid aver 1 0 l.length]
def bytO (l : List UInt8) : AObj := .arr 1 5 (eByte.E l)
theorem qnc {id v j w : Nat} {o p : AObj} {H : Heap} (h : j ≠ id) (hj : hget H j = some (w, p)) : hget ((id, v, o) :: H) j = some (w, p) := by
 simp only [hget]
 rw [if_neg (by omega)]
 exact hj
end Go.AW
namespace Go.Proofs
open Go
def But (g : Nat) (w w' : World) : Prop := Go.AW.Same w w' ∧ w.heap.size ≤ w'.heap.size ∧ ∀ k, k < w.heap.size → k ≠ g → w'.heap[k]? = w.heap[k]?
set_option maxHeartbeats 2000000 in
set_option maxRecDepth 100000 in
theorem zaN (b g : Nat) (w : World) (c0 : w.cell? ⟨b, 1, none⟩ = some (.slice none 0 0)) :
  Calls Tryz.prog 59 #[.pointer (some ⟨b, 0, none⟩)] w fun e w' => e = .returned (.string ⟨#[]⟩) ∧ But g w w' := by
 have hUS : ∀ (W : World) (q : Option Addr), (Builtin.unsafeString_ #[134, 3] 9 #[.pointer q, .int .i64 0]).run Tryz.prog W = .ok (.string .empty) W := fun W q => Lib.run_unsafeString_none W _ _ _ q
 have c1 : w.drew.cell? ⟨b, 1, none⟩ = some (.slice none 0 0) := c0
 have hSD : (Builtin.unsafeSliceData_ #[28] 134 #[.slice none 0 0]).run Tryz.prog w.drew = .ok (.pointer none) w.drew := rfl
 have mixed : Tryz.prog.follows .mixedOrders = true := by kernel_rfl
 go_enter Tryz.func59, Tryz.ntmps59
 go_wp2
 go_region_o
 all_goals (go_wp2; go_ret; exact ⟨rfl, ⟨rfl, rfl, rfl⟩, Nat.le_refl _, fun _ _ _ => rfl⟩)
set_option maxHeartbeats 2000000 in
set_option maxRecDepth 100000 in
theorem zaI (b g cap : Nat) (w : World) (hc0 : cap ≠ 0) (c0 : w.cell? ⟨b, 1, none⟩ = some (.slice (some ⟨g, 0, none⟩) 0 cap)) :
  Calls Tryz.prog 59 #[.pointer (some ⟨b, 0, none⟩)] w fun e w' => e = .returned (.string ⟨#[]⟩) ∧ But g w w' := by
 have hUS : ∀ (W : World) (q : Option Addr), (Builtin.unsafeString_ #[134, 3] 9 #[.pointer q, .int .i64 0]).run Tryz.prog W = .ok (.string .empty) W := fun W q => Lib.run_unsafeString_none W _ _ _ q
 have c1 : w.drew.cell? ⟨b, 1, none⟩ = some (.slice (some ⟨g, 0, none⟩) 0 cap) := c0
 have hSD : (Builtin.unsafeSliceData_ #[28] 134 #[.slice (some ⟨g, 0, none⟩) 0 cap]).run Tryz.prog w.drew = .ok (.pointer (some ⟨g, 0, none⟩)) w.drew := Lib.run_unsafeSliceData_row _ _ _ _ _ _ hc0
 clear hc0
 have mixed : Tryz.prog.follows .mixedOrders = true := by kernel_rfl
 go_enter Tryz.func59, Tryz.ntmps59
 go_wp2
 go_region_o
 all_goals (go_wp2; go_ret; exact ⟨rfl, ⟨rfl, rfl, rfl⟩, Nat.le_refl _, fun _ _ _ => rfl⟩)
set_option maxHeartbeats 2000000 in
set_option maxRecDepth 100000 in
theorem zaC (b g : Nat) (cur : Array Value) (fr : Nat × Nat) (w : World) (hlt : b < w.heap.size) (c0 : w.cell? ⟨b, 1, none⟩ = some (.slice (some ⟨g, 0, none⟩) 0 0)) (hg : w.heap[g]? = some (.cells cur 5 fr)) :
  Calls Tryz.prog 59 #[.pointer (some ⟨b, 0, none⟩)] w fun e w' => e = .returned (.string ⟨#[]⟩) ∧ But g w w' := by
 have hUS : ∀ (W : World) (q : Option Addr), (Builtin.unsafeString_ #[134, 3] 9 #[.pointer q, .int .i64 0]).run Tryz.prog W = .ok (.string .empty) W := fun W q => Lib.run_unsafeString_none W _ _ _ q
 have c1 : w.drew.cell? ⟨b, 1, none⟩ = some (.slice (some ⟨g, 0, none⟩) 0 0) := c0
 have hSD : (Builtin.unsafeSliceData_ #[28] 134 #[.slice (some ⟨g, 0, none⟩) 0 0]).run Tryz.prog w.drew = .ok (.pointer (some ⟨w.drew.heap.size, 0, none⟩)) (w.drew.alloc (.view ⟨g, 0, none⟩ 5)) :=
  Lib.run_unsafeSliceData_zero w.drew _ _ 5 Tryz.underlying134 ⟨g, 0, none⟩ 0 (5, cur.size) (by have hg' : w.drew.heap[g]? = some (.cells cur 5 fr) := hg; simp [World.shape?, hg'])
 have c2 : (w.drew.alloc (.view ⟨g, 0, none⟩ 5)).cell? ⟨b, 1, none⟩ = some (.slice (some ⟨g, 0, none⟩) 0 0) := by
  have e : (w.drew.alloc (.view ⟨g, 0, none⟩ 5)).heap[b]? = w.heap[b]? := Lib.alloc_old w.drew _ b hlt
  have h1 : (w.drew.alloc (.view ⟨g, 0, none⟩ 5)).cell? ⟨b, 1, none⟩ = w.cell? ⟨b, 1, none⟩ := by simp only [World.cell?, e]
  rw [h1]; exact c0
 have c3 : (w.alloc (.view ⟨g, 0, none⟩ 5)).drew.cell? ⟨b, 1, none⟩ = some (.slice (some ⟨g, 0, none⟩) 0 0) := c2
 have mixed : Tryz.prog.follows .mixedOrders = true := by kernel_rfl
 go_enter Tryz.func59, Tryz.ntmps59
 go_wp2
 go_region_o
 all_goals (go_wp2; go_ret; exact ⟨rfl, ⟨rfl, rfl, rfl⟩, by show w.heap.size ≤ (w.heap.push _).size; rw [Array.size_push]; omega, fun k hk _ => Lib.alloc_old w.drew _ k hk⟩)
set_option maxHeartbeats 2000000 in
set_option maxRecDepth 100000 in
theorem zaH (b g cap : Nat) (cur : Array Value) (fr : Nat × Nat) (l : List UInt8) (w : World) (h0 : l ≠ []) (c0 : w.cell? ⟨b, 1, none⟩ = some (.slice (some ⟨g, 0, none⟩) l.length cap)) (hg : w.heap[g]? = some (.cells cur 5 fr)) (hcap : l.length ≤ cap) (hsz : cur.size = cap) (hcm : cap ≤ maxLen)
  (hcell : ∀ (j : Nat) (x : UInt8), l[j]? = some x → cur[j]? = some (.int .u8 x.toNat)) :
  Calls Tryz.prog 59 #[.pointer (some ⟨b, 0, none⟩)] w fun e w' => e = .returned (.string ⟨l.toArray⟩) ∧ But g w w' := by
 have hl0 : l.length ≠ 0 := by simpa using h0
 have c1 : w.drew.cell? ⟨b, 1, none⟩ = some (.slice (some ⟨g, 0, none⟩) l.length cap) := c0
 have hSD : (Builtin.unsafeSliceData_ #[28] 134 #[.slice (some ⟨g, 0, none⟩) l.length cap]).run Tryz.prog w.drew = .ok (.pointer (some ⟨g, 0, none⟩)) w.drew := Lib.run_unsafeSliceData_row _ _ _ _ _ _ (by omega)
 have hUS : (Builtin.unsafeString_ #[134, 3] 9 #[.pointer (some ⟨g, 0, none⟩), .int .i64 l.length]).run Tryz.prog w.drew = .ok (.string ⟨l.toArray⟩) (w.drew.freeze ⟨g, 0, none⟩ l.length) := by
  refine Lib.run_unsafeString_row w.drew 134 3 9 5 Tryz.underlying134 (by kernel_rfl) g cur.size (by have hg' : w.drew.heap[g]? = some (.cells cur 5 fr) := hg; simp [World.shape?, hg']) l h0 (by omega) (by unfold maxLen at hcm; omega) ?_
  intro j x hx
  have hg' : w.drew.heap[g]? = some (.cells cur 5 fr) := hg
  rw [Addr.add_lit, Nat.zero_add, Lib.cell_of_heap hg']
  exact hcell j x hx
 have hfz : But g w (w.drew.freeze ⟨g, 0, none⟩ l.length) := by
  unfold World.freeze
  rw [if_neg hl0]
  refine ⟨⟨rfl, rfl, rfl⟩, by show w.heap.size ≤ (w.heap.modify g _).size; simp, fun k hk hne => ?_⟩
  show (w.heap.modify g _)[k]? = _
  rw [Array.getElem?_modify, if_neg (fun e => hne e.symm)]
 clear hcell hsz hcap hcm h0 hl0 hg
 have mixed : Tryz.prog.follows .mixedOrders = true := by kernel_rfl
 go_enter Tryz.func59, Tryz.ntmps59
 go_wp2
 go_region_o
 all_goals (go_wp2; go_ret; exact ⟨rfl, hfz⟩)
end Go.Proofs
namespace Go.AW
open Go
section
open Go Go.Proofs Go.Lib
theorem qmV {w : World} {μ : Mu} : ∀ {l : List UInt8} {vs : List Value}, RepL w μ (l.map fun b => HV.int .u8 (b.toNat : Int)) vs → vs = l.map fun b => Value.int .u8 (b.toNat : Int)
 | [], vs, h => h
 | x :: l, vs, h => by
  obtain ⟨v, vs', rfl, hx, hr⟩ := h
  obtain ⟨rfl, _⟩ := hx
  rw [qmV hr]
  rfl
theorem qqA {H : Heap} {K : HV → Heap → Prop} {id ver aid aver : Nat} {u : Bool} {l : List UInt8} (hg : hget H id = some (ver, bldO id ver aid aver u l)) (ha : hget H aid = some (aver, bytO l)) (hK : ∀ av, K (.str l) ((aid, av, .arr 1 5 []) :: H)) :
  ACall Tryz.prog 59 [.ptr id ver 0] H K := by
 refine ⟨qdo Tryz.func59 rfl rfl, fun μ w vs hs hr _ => ?_⟩
 obtain ⟨x, xs, rfl, hr, hn⟩ := hr
 cases hn
 obtain ⟨lo, hl, hor⟩ := hs.has _ _ _ hg
 obtain ⟨la, hla, hora⟩ := hs.has _ _ _ ha
 have hle : ∀ v ob j (y : Nat × AObj), hget ((aid, v, ob) :: H) j = some y ↔ hget (hset H aid v ob) j = some y := fun v ob j y => by simp only [hget, qal]
 have fin : ∀ (g : Nat) (w' : World), (∀ b, μ.loc aid = some (aver, some b) → b = g) → (la = none → w.heap.size ≤ g) → l.length ≤ maxLen → But g w w' → ∃ v r H' μ', Ending.returned (.string ⟨l.toArray⟩) = .returned v ∧ K r H' ∧ SR w' μ' H' ∧ Rep w' μ' r v ∧ Evo w μ w' μ' := by
  intro g w' hb hgn hlen ⟨h1, h2, h3⟩
  have hold : ∀ b, b < w.heap.size → (∀ ver, μ.loc aid ≠ some (ver, some b)) → w'.heap[b]? = w.heap[b]? := fun b hb1 hb2 => by
   by_cases e : b = g
   ·cases la with
    | none => exact absurd (hgn rfl) (by omega)
    | some b0 =>
     have := hb b0 hla
     subst this
     subst e
     exact absurd hla (hb2 _)
   exact h3 b hb1 e
  have hsr := hs.repl aid none (.arr 1 5 []) h1 h2 hold (fun b hb => by cases hb) rfl
  have hE := Evo.repl hs aid none h1 h2 hold (fun b hb => by cases hb)
  exact ⟨_, .str l, _, μ.set aid none, rfl, hK μ.nx, hsr.le (hle _ _), ⟨rfl, hlen⟩, hE⟩
 rcases hr with ⟨b, hl', rfl⟩ | ⟨hd, _⟩
 ·rw [hl] at hl'
  cases hl'
  obtain ⟨h1, cur, vs', rest, hrow, hcl, hrl⟩ := hor
  obtain ⟨v0, vs1, rfl, r0, v1, vs2, rfl, r1, hn⟩ := hrl
  cases hn
  have hrow2 := hrow
  obtain ⟨lo', hi', hbk, hfr⟩ := hrow2
  have hc1 : cur[1]? = some v1 := by rw [← Array.getElem?_toList, hcl]; rfl
  have hcell : w.cell? ⟨b, 1, none⟩ = some v1 := by rw [Lib.cell_of_heap hbk]; exact hc1
  have hlt : b < w.heap.size := by
   rcases Nat.lt_or_ge b w.heap.size with h' | h'
   ·exact h'
   simp [Array.getElem?_eq_none h'] at hbk
  rcases r1 with ⟨la', hla', ⟨rfl, rfl, h0, _⟩ | ⟨g, cap, curg, e, rfl, rfl, hnc, hcm, hrowg, hszg⟩⟩ | ⟨hd, _⟩
  ·have hln := List.eq_nil_of_length_eq_zero h0
   subst hln
   refine (zaN b w.heap.size w hcell).mono ?_
   rintro e w' ⟨rfl, hb⟩
   exact fin _ w' (fun b hb => by rw [hla'] at hb; cases hb) (fun _ => Nat.le_refl _) (Nat.zero_le _) hb
  ·rw [hla] at hla'
   cases hla'
   obtain ⟨_, cur2, vs2, rest2, hrow2, hcl2, hrl2⟩ := hora
   obtain ⟨lo2, hi2, hbg, hfr2⟩ := hrow2
   obtain ⟨lo3, hi3, hbg3, hfr3⟩ := hrowg
   rw [hbg] at hbg3
   cases hbg3
   have hvs := qmV hrl2
   subst hvs
   have hb1 : ∀ b, μ.loc aid = some (aver, some b) → b = g := fun b hb => by rw [hla] at hb; cases hb; rfl
   by_cases h0 : l = []
   ·subst h0
    by_cases hc0 : cap = 0
    ·subst hc0
     refine (zaC b g curg _ w hlt hcell hbg).mono ?_
     rintro e w' ⟨rfl, hb⟩
     exact fin g w' hb1 (fun e => by cases e) (Nat.zero_le _) hb
    refine (zaI b g cap w hc0 hcell).mono ?_
    rintro e w' ⟨rfl, hb⟩
    exact fin g w' hb1 (fun e => by cases e) (Nat.zero_le _) hb
   refine (zaH b g cap curg _ l w h0 hcell hbg hnc (by omega) hcm fun j x hj => ?_).mono ?_
   ·rw [← Array.getElem?_toList, hcl2, List.getElem?_append_left (by
     have := (List.getElem?_eq_some_iff.1 hj).1
     simpa using this), List.getElem?_map, hj]
    rfl
   rintro e w' ⟨rfl, hb⟩
   exact fin g w' hb1 (fun e => by cases e) (by omega) hb
  exact absurd hla (hd.2 _)
 exact absurd hl (hd.2 _)
end
open Go.Proofs
set_option maxRecDepth 100000 in
theorem qgP {H : Heap} {K : HV → Heap → Prop} {id ver aid aver : Nat} {u : Bool} {l m : List UInt8} (hid : aid ≠ id) (hg : hget H id = some (ver, bldO id ver aid aver u l)) (ha : hget H aid = some (aver, bytO l)) (hfit : fits 1 (l.length + m.length))
    (hK : ∀ av, K (.tup [.int .i64 (m.length : Int), .v .nilIface]) ((id, ver, bldO id ver aid av true (l ++ m)) :: (aid, av, bytO (l ++ m)) :: H)) : ACall Tryz.prog 54 [.ptr id ver 0, .str m] H K := by
  refine ACall.of_body Tryz.func54 rfl rfl (lb rfl) ?_
  unfold Tryz.f54
  dsimp only [qaH, Nat.reduceAdd]
  refine zaa rfl fun K1 hK1 => ?_
  refine mv rfl rfl (mv rfl rfl ?_)
  refine qah (hK1 _ (AW.to (qa9 (s' := ⟨[(0, .ptr id ver 0), (1, .str m)], H⟩) (qcA ⟨rfl, rfl, trivial⟩) ?_)))
  clear hK1 K1
  refine zaa rfl fun K1 hK1 => ?_
  refine mv rfl rfl ?_
  refine b_op rfl (qfD rfl rfl rfl rfl (qmv hg ?_))
  refine qah (hK1 _ (AW.to (qa9 (s' := ⟨[(0, .ptr id ver 0), (1, .str m)], (id, ver, .arr 2 80 [.ptr id ver 0, .ar aid aver 1 0 l.length]) :: H⟩) (qcA ⟨rfl, rfl, trivial⟩) ?_)))
  clear hK1 K1
  have ha1 : hget ((id, ver, AObj.arr 2 80 [.ptr id ver 0, .ar aid aver 1 0 l.length]) :: H) aid = some (aver, .arr eByte.k 5 (eByte.E l)) := qnc hid ha
  refine zaa rfl fun K1 hK1 => ?_
  refine mv rfl rfl (mv rfl rfl (bv rfl (qqJ rfl qcB) (bv rfl (qao qq4 rfl qcB) (bv rfl (qar ty28 rfl qcB (qan rfl rfl)) (mv rfl rfl ?_)))))
  refine b_op rfl (qsA (l := l) (m := m) rfl rfl ty28 ty9 ty5 rfl ha1 rfl rfl rfl hfit (fun av => ?_))
  refine bv rfl (qqJ rfl (qnc (fun e => hid e.symm) qcB)) (bv rfl (qao qq4 rfl (qnc (fun e => hid e.symm) qcB)) ?_)
  refine b_op rfl (qaD (cs := [.ar aid av 1 0 (l ++ m).length]) (zs := [.ptr id ver 0, .ar aid av 1 0 (l ++ m).length]) rfl rfl rfl ty28 rfl (qnc (fun e => hid e.symm) qcB) rfl rfl rfl ?_)
  refine qah (hK1 _ (AW.to (qa9 (s' := ⟨[(1, .str m)], (id, ver, .arr 2 80 [.ptr id ver 0, .ar aid av 1 0 (l ++ m).length]) :: (aid, av, .arr 1 5 (eByte.E (l ++ m))) :: H⟩) ⟨qaO ⟨rfl, trivial⟩, fun j x hx => ?_⟩ ?_)))
  · simp only [hget] at hx ⊢
    by_cases h1 : j = id
    · subst h1; simpa using hx
    rw [if_neg h1] at hx ⊢
    by_cases h2 : j = aid
    · rw [if_pos h2] at hx ⊢; exact hx
    rw [if_neg h2] at hx
    rw [if_neg h2, if_neg h1]
    exact hx
  clear hK1 K1
  refine zaa rfl fun K1 hK1 => ?_
  refine mv rfl rfl (bv rfl (qgo rfl rfl ty9 rfl) (mv rfl rfl (mv rfl rfl ?_)))
  refine qah (hK1 _ (AW.to (qa9 (s' := ⟨[(4, .int .i64 (m.length : Int)), (5, .v .nilIface)], (id, ver, .arr 2 80 [.ptr id ver 0, .ar aid av 1 0 (l ++ m).length]) :: (aid, av, .arr 1 5 (eByte.E (l ++ m))) :: H⟩) (qcA ⟨rfl, rfl, trivial⟩) ?_)))
  clear hK1 K1
  refine AW.ret ⟨.inr rfl, ?_⟩
  simp only [go_sem]
  exact ⟨_, _, Conv.refl _ _, hK av⟩
def qdn (p0 : List (Int)) (p1 : Int) : Option ((List (Int)) × Int) :=
 if 0 ≤ (((p0).length : Int) : Int) ∧ (((p0).length : Int) : Int) ≤ ((p0).length : Int) ∧ (((p0).length : Int) : Int) * 4 ≤ 281474976710656 then
  (loopW (S := Int × Int × (List Int)) (X := (List Int) × Int) (fun a3 =>
      if 0 ≤ a3.2.1 then
       (idx p0 a3.2.1).bind fun x7 =>
       if (IntKind.wrap .u64 p1) ≠ 0 then
        if (IntKind.wrap .u64 p1) ≠ 0 then
         (idx a3.2.2 a3.2.1).bind fun x91101 =>
         some (Stp.next (Int.tmod (IntKind.wrap .u64 (BitVec.ofInt (IntKind.bits .u64) (IntKind.wrap .u64 (a3.1 * 2 ^ (min (32 : Int).toNat (IntKind.bits .u64)))) ||| BitVec.ofInt (IntKind.bits .u64) (IntKind.wrap .u64 x7)).toNat) (IntKind.wrap .u64 p1), IntKind.wrap .i64 (a3.2.1 - 1), (a3.2.2).set (a3.2.1).toNat (IntKind.wrap .u32 (IntKind.wrap .u64 (Int.tdiv (IntKind.wrap .u64 (BitVec.ofInt (IntKind.bits .u64) (IntKind.wrap .u64 (a3.1 * 2 ^ (min (32 : Int).toNat (IntKind.bits .u64)))) ||| BitVec.ofInt (IntKind.bits .u64) (IntKind.wrap .u64 x7)).toNat) (IntKind.wrap .u64 p1))))))
        else none
       else none
      else
       some (Stp.exit (a3.2.2, a3.1))) (0, IntKind.wrap .i64 (((p0).length : Int) - 1), List.replicate (((p0).length : Int)).toNat (0 : Int))).bind fun a10 =>
  (qcm a10.1).bind fun x12 =>
  some (x12, IntKind.wrap .u32 a10.2)
 else none
set_option maxHeartbeats 1600000
set_option maxRecDepth 100000
theorem qfZ {p0 : List (Int)} {r : (List (Int))} (h : qcm p0 = some r) : Pure Tryz.prog 124 [slE (encM (HV.int .u32)) p0] (· = slE (encM (HV.int .u32)) r) := by
 unfold qcm at h
 refine zaj Tryz.func124 rfl rfl (lb rfl) fun hf => ?_
 unfold Tryz.f124
 dsimp only [qaH, Nat.reduceAdd]
 refine zaa rfl fun K hK => mv rfl rfl ?_
 refine bf hK ⟨[(0, slE (encM (HV.int .u32)) p0)], []⟩ ?_
 refine zad (AW.lpX h qaG (S := (List Int)) (V := Unit) (fun a v => ⟨[(0, slE (encM (HV.int .u32)) a)], []⟩) ?_ (X := (List Int)) (W := Unit) (fun a v => ⟨[(0, slE (encM (HV.int .u32)) a)], []⟩) (fun a12 w13 h => ?_) (fun a1 w2 st3 h => ?_))
 ·exact to_L ⟨(), rfl⟩
 ·refine zaa rfl fun K hK => mv rfl rfl (mv rfl rfl ?_)
  refine bf hK ⟨[(2, slE (encM (HV.int .u32)) a12)], []⟩ ?_
  obtain rfl := oi h
  exact AW.ret (qad (.inr rfl) (resT rfl rfl) rfl (qai fun _ _ => ⟨trivial, trivial⟩))
 refine zad ?_
 refine zag h (S := Bool) (V := Unit) (fun a v => ⟨[(0, slE (encM (HV.int .u32)) a1), (14, .bool a)], []⟩) (fun a5 w6 h => ?_) (fun k7 h => ?_)
 ·refine zae rfl (fun hc => ?_) (fun hc => ?_)
  ·have h := ifT hc h
   refine zac ?_
   refine zaf ?_
   refine zab rfl fun K hK => mv rfl rfl (mv rfl rfl (bv rfl (qaI rfl rfl qf9 rfl) (bv rfl (qae rfl rfl qhk) ?_)))
   obtain ⟨h8, h⟩ := ifN h
   refine bv rfl (qmC (encM (HV.int .u32)) qf9 qpu rfl rfl rfl h8) (mv rfl rfl ?_)
   refine qah (hK _ ?_)
   exact to_L ⟨(a1.take (IntKind.wrap .i64 (((a1).length : Int) - 1)).toNat).drop (0 : Int).toNat, (), h, rfl⟩
  have h := ifF (bF' hc) h
  refine AW.exit ?_
  exact to_L ⟨a1, (), h, rfl⟩
 refine zab rfl fun K hK => mv rfl rfl (bv rfl (qaI rfl rfl qf9 rfl) (bv rfl (qae rfl rfl qbh) (mv rfl rfl ?_)))
 by_cases hg11 : 0 < ((a1).length : Int)
 ·have h := ifT hg11 h
  refine b_T rfl rfl rfl rfl (decide_eq_true hg11) (qaf rfl (qas rfl rfl).2 ?_)
  refine b_T rfl rfl rfl rfl rfl (qaf rfl (qas rfl rfl).2 ?_)
  refine b_T rfl rfl rfl rfl rfl (qaf rfl (qaI rfl rfl qf9 rfl) ?_)
  refine b_T rfl rfl rfl rfl rfl (qaf rfl (qae rfl rfl qhk) ?_)
  obtain ⟨x9, h10, h⟩ := bS h
  refine b_T rfl rfl rfl rfl rfl (qaf rfl (qaJ qf9 qpu rfl rfl (qaw h10)) ?_)
  refine b_T rfl rfl rfl rfl rfl (qaf rfl (qab qhP rfl (qaL (encM (HV.int .u32)) h10 (o := 0) rfl rfl)) ?_)
  refine b_T rfl rfl rfl rfl rfl (qaf rfl (qae rfl rfl qd1) ?_)
  refine bv rfl (qaj rfl rfl rfl) ?_
  refine qah (hK _ ?_)
  exact to_L ⟨decide (x9 = 0), (), h, rfl⟩
 have h := ifF hg11 h
 refine b_F rfl rfl rfl rfl rfl (decide_eq_false hg11) ?_
 iterate 6 refine b_F rfl rfl rfl rfl rfl rfl ?_
 refine bv rfl (qak rfl rfl rfl) ?_
 refine qah (hK _ ?_)
 exact to_L ⟨false, (), h, rfl⟩
theorem qhK {p0 : Bool} {p1 : List (Int)} {r : qgi} (h : qcZ p0 p1 = some r) : Pure Tryz.prog 71 [.bool p0, slE (encM (HV.int .u32)) p1] (· = HV.agg [.bool r.1, .str r.2]) := by
 unfold qcZ at h
 refine zaj Tryz.func71 rfl rfl (lb rfl) fun hf => ?_
 unfold Tryz.f71
 dsimp only [qaH, Nat.reduceAdd]
 refine zaa rfl fun K hK => b_op rfl (qba (fid := 71) (zs := [.bool false, .str nS]) 71004 rfl rfl ty42 rfl (fun v1 => ?_))
 let O2 : Nat × Nat × AObj := (71004, v1, .arr 2 42 [.bool false, .str nS])
 let P1 : ASf := fun t H => ⟨(0, .bool p0) :: t, O2 :: H⟩
 refine bf hK (P1 [(1, slE (encM (HV.int .u32)) p1), (4, .ptr 71004 v1 0)] []) ?_
 refine zaa rfl fun K hK => mv rfl rfl ?_
 obtain ⟨x2, h3, h⟩ := bS h
 refine b_op rfl (qaB rfl rfl rfl rfl (zai (qfZ h3)) ?_)
 refine mv rfl rfl ?_
 let E3 : Nat × HV := (1, slE (encM (HV.int .u32)) x2)
 refine bf hK (P1 [E3, (4, .ptr 71004 v1 0)] []) ?_
 refine zad ?_
 refine zaa rfl fun K hK => mv rfl rfl (bv rfl (qaI rfl rfl qf9 rfl) (bv rfl (qae rfl rfl qd1) ?_))
 refine bf hK (P1 [E3, (4, .ptr 71004 v1 0), (13, .bool (decide (((x2).length : Int) = 0)))] []) ?_
 refine zae rfl (fun hc => ?_) (fun hc => ?_)
 ·obtain ⟨hc, h⟩ := cT hc h
  refine zaa rfl fun K hK => b_op rfl (qbC (cs := [.bool false, .str nS]) rfl (qea ty42 rfl rfl rfl rfl) ?_)
  refine b_op rfl (qaD (cs := [.bool false, .str nS]) (zs := [.bool false, .str nS]) rfl rfl rfl ty42 rfl rfl rfl rfl rfl ?_)
  refine bf hK ⟨[(4, .ptr 71004 v1 0)], [O2]⟩ ?_
  obtain rfl := oi h
  exact AW.ret (qad (.inr rfl) (resP ty42 rfl rfl (qav rfl (lb rfl) rfl) rfl) rfl ⟨trivial, trivial, trivial⟩)
 obtain ⟨hc, h⟩ := cF hc h
 refine zac ?_
 refine zaa rfl fun K hK => mv rfl rfl (bv rfl (qaI rfl rfl qf9 rfl) (bv rfl (qae rfl rfl qpB) ?_))
 obtain ⟨h5, h⟩ := ifN h
 refine b_op rfl (qfC (fid := 71) eU8 (0 : Int) 71018 rfl rfl ty28 rfl rfl ty5 rfl rfl h5 (fun v4 => ?_))
 refine mv rfl rfl ?_
 let E4 : Nat × HV := (5, .ar 71018 v4 eU8.k 0 ((List.replicate (0 : Int).toNat (0 : Int)).length))
 let O5 : Nat × Nat × AObj := (71018, v4, .arr eU8.k 5 (eU8.E (List.replicate (0 : Int).toNat (0 : Int))))
 refine bf hK (P1 [E3, (4, .ptr 71004 v1 0), E4] [O5]) ?_
 refine zad ?_
 refine zaa rfl fun K hK => mv rfl rfl (bv rfl (qaI rfl rfl qf9 rfl) (bv rfl (qae rfl rfl qhk) (mv rfl rfl ?_)))
 refine bf hK (P1 [E3, (4, .ptr 71004 v1 0), E4, (6, hI (IntKind.wrap .i64 (((x2).length : Int) - 1)))] [O5]) ?_
 refine AW.lpX h (by first | exact qaG | exact qbp) (S := Int × (List Int)) (V := Nat) (fun a v => (P1 [E3, (4, .ptr 71004 v1 0), (5, .ar 71018 v eU8.k 0 ((a.2).length)), (6, hI a.1)] [(71018, v, .arr eU8.k 5 (eU8.E a.2))])) ?_ (X := (List Int)) (W := Nat) (fun a v => (P1 [(4, .ptr 71004 v1 0), (5, .ar 71018 v eU8.k 0 ((a).length))] [(71018, v, .arr eU8.k 5 (eU8.E a))])) (fun a28 w29 h => ?_) (fun a6 w7 st8 h => ?_)
 ·exact to_L ⟨v4, rfl⟩
 ·refine AW.to (qdN 2 [(71018, w29, .arr eU8.k 5 (eU8.E a28))] (P1 [(4, .ptr 71004 v1 0), (5, slE eU8 a28)] []) ⟨⟨_, rfl, rfl⟩, ⟨_, rfl, rfl⟩, ⟨_, rfl, qbw eU8 (l := a28) rfl fun _ _ => rfl⟩, trivial⟩ ⟨rfl, trivial⟩ ⟨rfl, trivial⟩ ⟨rfl, trivial⟩ ?_)
  refine zaa rfl fun K hK => mv rfl rfl (mv rfl rfl (bv rfl (qrg (l := a28) ty28 ty5 ty9 rfl) ?_))
  refine b_op rfl (qbC (cs := [.bool p0, .str (a28.map fun (n : Int) => UInt8.ofNat n.toNat)]) rfl (qea ty42 rfl rfl rfl rfl) ?_)
  refine b_op rfl (qaD (cs := [.bool p0, .str (a28.map fun (n : Int) => UInt8.ofNat n.toNat)]) (zs := [.bool p0, .str (a28.map fun (n : Int) => UInt8.ofNat n.toNat)]) rfl rfl rfl ty42 rfl rfl rfl rfl rfl ?_)
  refine bf hK ⟨[(4, .ptr 71004 v1 0)], [(71004, v1, .arr 2 42 [.bool p0, .str (a28.map fun (n : Int) => UInt8.ofNat n.toNat)])]⟩ ?_
  obtain rfl := oi h
  exact AW.ret (qad (.inr rfl) (resP ty42 rfl rfl (qav rfl (lb rfl) rfl) rfl) rfl ⟨trivial, trivial, trivial⟩)
 refine zad ?_
 refine zaa rfl fun K hK => mv rfl rfl (bv rfl (qae rfl rfl qfO) ?_)
 refine bf hK (P1 [E3, (4, .ptr 71004 v1 0), (5, .ar 71018 w7 eU8.k 0 ((a6.2).length)), (6, hI a6.1), (23, .bool (decide (0 ≤ a6.1)))] [(71018, w7, .arr eU8.k 5 (eU8.E a6.2))]) ?_
 refine zae rfl (fun hc => ?_) (fun hc => ?_)
 ·obtain ⟨hc, h⟩ := cT hc h
  refine zac ?_
  refine zad (zaf ?_)
  refine zaa rfl fun K hK => mv rfl rfl ?_
  refine bf hK (P1 [E3, (4, .ptr 71004 v1 0), (5, .ar 71018 w7 eU8.k 0 ((a6.2).length)), (6, hI a6.1), (7, hI 3)] [(71018, w7, .arr eU8.k 5 (eU8.E a6.2))]) ?_
  refine AW.lpX h (by first | exact qaG | exact qbp) (S := Int × (List Int)) (V := Nat) (fun a v => (P1 [E3, (4, .ptr 71004 v1 0), (5, .ar 71018 v eU8.k 0 ((a.2).length)), (6, hI a6.1), (7, hI a.1)] [(71018, v, .arr eU8.k 5 (eU8.E a.2))])) ?_ (X := (List Int)) (W := Nat) (fun a v => (P1 [E3, (4, .ptr 71004 v1 0), (5, .ar 71018 v eU8.k 0 ((a).length)), (6, hI a6.1)] [(71018, v, .arr eU8.k 5 (eU8.E a))])) (fun a26 w27 h => ?_) (fun a10 w11 st12 h => ?_)
  ·exact to_L ⟨w7, rfl⟩
  ·refine zab rfl fun K hK => mv rfl rfl (bv rfl (qae rfl rfl qhk) (mv rfl rfl ?_))
   refine qah (hK _ ?_)
   exact to_L ⟨(IntKind.wrap .i64 (a6.1 - 1), a26), w27, h, rfl⟩
  refine zad ?_
  refine zaa rfl fun K hK => mv rfl rfl (bv rfl (qae rfl rfl qfO) ?_)
  let E6 : Nat × HV := (5, .ar 71018 w11 eU8.k 0 ((a10.2).length))
  let O7 : Nat × Nat × AObj := (71018, w11, .arr eU8.k 5 (eU8.E a10.2))
  refine bf hK (P1 [E3, (4, .ptr 71004 v1 0), E6, (6, hI a6.1), (7, hI a10.1), (27, .bool (decide (0 ≤ a10.1)))] [O7]) ?_
  refine zae rfl (fun hc => ?_) (fun hc => ?_)
  ·obtain ⟨hc, h⟩ := cT hc h
   refine zac ?_
   refine zag h (S := (List Int)) (V := Nat) (fun a v => (P1 [E3, (4, .ptr 71004 v1 0), (5, .ar 71018 v eU8.k 0 ((a).length)), (6, hI a6.1), (7, hI a10.1)] [(71018, v, .arr eU8.k 5 (eU8.E a))])) (fun a14 w15 h => ?_) (fun k16 h => ?_)
   ·refine zab rfl fun K hK => mv rfl rfl (bv rfl (qae rfl rfl qhk) (mv rfl rfl ?_))
    refine qah (hK _ ?_)
    exact to_L ⟨(IntKind.wrap .i64 (a10.1 - 1), a14), w15, h, rfl⟩
   refine zaf ?_
   refine zaa rfl fun K hK => mv rfl rfl (mv rfl rfl ?_)
   obtain ⟨x17, h18, h⟩ := bS h
   refine bv rfl (qaJ qf9 qpu rfl rfl (qaw h18)) (bv rfl (qab qhP rfl (qaL (encM (HV.int .u32)) h18 (o := 0) rfl rfl)) (mv rfl rfl (bv rfl (qae rfl rfl qpB) ?_)))
   obtain ⟨h19, h⟩ := ifN h
   refine bv rfl (qae rfl rfl (qtG h19)) (bv rfl (qj4 qhP ty5 rfl) (mv rfl rfl ?_))
   let E8 : Nat × HV := (8, .int .u8 (IntKind.wrap .u8 (Int.fdiv x17 (2 ^ (min ((IntKind.wrap .i64 (8 * a10.1))).toNat (IntKind.bits .u32))))))
   refine bf hK (P1 [E3, (4, .ptr 71004 v1 0), E6, (6, hI a6.1), (7, hI a10.1), E8] [O7]) ?_
   refine zag h (S := Bool) (V := Unit) (fun a v => (P1 [E3, (4, .ptr 71004 v1 0), E6, (6, hI a6.1), (7, hI a10.1), E8, (44, .bool a)] [O7])) (fun a20 w21 h => ?_) (fun k22 h => ?_)
   ·refine zae rfl (fun hc => ?_) (fun hc => ?_)
    ·have h := ifT hc h
     refine zab rfl fun K hK => mv rfl rfl (mv rfl rfl ?_)
     refine b_op rfl (qdX rfl rfl (qbV (cs := [.int .u8 (IntKind.wrap .u8 (Int.fdiv x17 (2 ^ (min ((IntKind.wrap .i64 (8 * a10.1))).toNat (IntKind.bits .u32)))))]) ty28 ty5 rfl rfl rfl rfl rfl) ?_)
     obtain ⟨h24, h⟩ := ifN h
     refine b_op rfl (qdh eU8 (l := a10.2) (m := [IntKind.wrap .u8 (Int.fdiv x17 (2 ^ (min ((IntKind.wrap .i64 (8 * a10.1))).toNat (IntKind.bits .u32))))]) rfl rfl ty28 ty28 ty5 rfl rfl rfl rfl rfl h24 (fun v23 => ?_))
     refine mv rfl rfl ?_
     refine qah (hK _ ?_)
     exact to_L ⟨a10.2 ++ [IntKind.wrap .u8 (Int.fdiv x17 (2 ^ (min ((IntKind.wrap .i64 (8 * a10.1))).toNat (IntKind.bits .u32))))], v23, h, rfl⟩
    have h := ifF (bF' hc) h
    refine zac ?_
    exact to_L ⟨a10.2, w11, h, rfl⟩
   refine zab rfl fun K hK => mv rfl rfl (bv rfl (qae rfl rfl qcL) (mv rfl rfl ?_))
   by_cases hg25 : (IntKind.wrap .u8 (Int.fdiv x17 (2 ^ (min ((IntKind.wrap .i64 (8 * a10.1))).toNat (IntKind.bits .u32))))) ≠ 0
   ·have h := ifT hg25 h
    refine b_F rfl rfl rfl rfl rfl (decide_eq_true hg25) ?_
    iterate 2 refine b_F rfl rfl rfl rfl rfl rfl ?_
    refine bv rfl (qaj rfl rfl rfl) ?_
    refine qah (hK _ ?_)
    exact to_L ⟨true, (), h, rfl⟩
   have h := ifF hg25 h
   refine b_T rfl rfl rfl rfl (decide_eq_false hg25) (qaf rfl (qas rfl rfl).2 ?_)
   refine b_T rfl rfl rfl rfl rfl (qaf rfl (qhv rfl rfl ty28 rfl rfl) ?_)
   refine b_T rfl rfl rfl rfl rfl (qaf rfl (qae rfl rfl qbh) ?_)
   refine bv rfl (qak rfl rfl rfl) ?_
   refine qah (hK _ ?_)
   exact to_L ⟨decide (0 < (((a10.2).length : Nat) : Int)), (), h, rfl⟩
  obtain ⟨hc, h⟩ := cF hc h
  refine AW.exit ?_
  exact to_L ⟨a10.2, w11, h, rfl⟩
 obtain ⟨hc, h⟩ := cF hc h
 refine AW.exit ?_
 exact to_L ⟨a6.2, w7, h, rfl⟩
theorem qio {p0 : List (Int)} {p1 : Int} {r : (List (Int)) × Int} (h : qdn p0 p1 = some r) : Pure Tryz.prog 200 [slE (encM (HV.int .u32)) p0, .int .u32 p1] (· = HV.tup [slE (encM (HV.int .u32)) r.1, .int .u32 r.2]) := by
 unfold qdn at h
 refine zaj Tryz.func200 rfl rfl (lb rfl) fun hf => ?_
 unfold Tryz.f200
 dsimp only [qaH, Nat.reduceAdd]
 refine zaa rfl fun K hK => mv rfl rfl (mv rfl rfl ?_)
 let E1 : Nat × HV := (0, slE (encM (HV.int .u32)) p0)
 let P2 : ASf := fun t H => ⟨E1 :: (1, .int .u32 p1) :: t, H⟩
 refine bf hK (P2 [] []) ?_
 refine zaa rfl fun K hK => mv rfl rfl (bv rfl (qaI rfl rfl qf9 rfl) ?_)
 obtain ⟨h2, h⟩ := ifN h
 refine b_op rfl (qfC (fid := 200) (encM (HV.int .u32)) (0 : Int) 200012 rfl rfl qf9 rfl rfl qhP rfl rfl h2 (fun v1 => ?_))
 refine mv rfl rfl ?_
 let E9 : Nat × HV := (6, .ar 200012 v1 (encM (HV.int .u32)).k 0 ((List.replicate (((p0).length : Int)).toNat (0 : Int)).length))
 let O10 : Nat × Nat × AObj := (200012, v1, .arr (encM (HV.int .u32)).k 105 ((encM (HV.int .u32)).E (List.replicate (((p0).length : Int)).toNat (0 : Int))))
 refine bf hK (P2 [E9] [O10]) ?_
 refine zaa rfl fun K hK => mv rfl rfl ?_
 refine bf hK (P2 [E9, (7, .int .u64 0)] [O10]) ?_
 refine zad ?_
 refine zaa rfl fun K hK => mv rfl rfl (bv rfl (qaI rfl rfl qf9 rfl) (bv rfl (qae rfl rfl qhk) (mv rfl rfl ?_)))
 refine bf hK (P2 [E9, (7, .int .u64 0), (8, hI (IntKind.wrap .i64 (((p0).length : Int) - 1)))] [O10]) ?_
 refine AW.lpX h (by first | exact qaG | exact qbp) (S := Int × Int × (List Int)) (V := Unit) (fun a v => (P2 [(6, .ar 200012 v1 (encM (HV.int .u32)).k 0 ((a.2.2).length)), (7, .int .u64 a.1), (8, hI a.2.1)] [(200012, v1, .arr (encM (HV.int .u32)).k 105 ((encM (HV.int .u32)).E a.2.2))])) ?_ (X := (List Int) × Int) (W := Unit) (fun a v => ⟨[(6, .ar 200012 v1 (encM (HV.int .u32)).k 0 ((a.1).length)), (7, .int .u64 a.2)], [(200012, v1, .arr (encM (HV.int .u32)).k 105 ((encM (HV.int .u32)).E a.1))]⟩) (fun a10 w11 h => ?_) (fun a3 w4 st5 h => ?_)
 ·exact to_L ⟨(), rfl⟩
 ·refine AW.to (qdN 2 [(200012, v1, .arr (encM (HV.int .u32)).k 105 ((encM (HV.int .u32)).E a10.1))] ⟨[(6, slE (encM (HV.int .u32)) a10.1), (7, .int .u64 a10.2)], []⟩ ⟨⟨_, rfl, qbw (encM (HV.int .u32)) (l := a10.1) rfl fun _ _ => rfl⟩, ⟨_, rfl, rfl⟩, trivial⟩ trivial ⟨rfl, trivial⟩ ⟨rfl, trivial⟩ ?_)
  refine zaa rfl fun K hK => mv rfl rfl ?_
  obtain ⟨x12, h13, h⟩ := bS h
  refine b_op rfl (qaB rfl rfl rfl rfl (zai (qfZ h13)) ?_)
  refine mv rfl rfl (bv rfl (qj4 qnA qhP rfl) (mv rfl rfl (mv rfl rfl ?_)))
  refine bf hK ⟨[(4, slE (encM (HV.int .u32)) x12), (5, .int .u32 (IntKind.wrap .u32 a10.2))], []⟩ ?_
  obtain rfl := oi h
  exact AW.ret (qad (.inr rfl) (resT rfl (resT rfl rfl)) rfl ⟨(qai fun _ _ => ⟨trivial, trivial⟩), trivial, trivial⟩)
 refine zad ?_
 refine zaa rfl fun K hK => mv rfl rfl (bv rfl (qae rfl rfl qfO) ?_)
 let E11 : Nat × HV := (6, .ar 200012 v1 (encM (HV.int .u32)).k 0 ((a3.2.2).length))
 let O12 : Nat × Nat × AObj := (200012, v1, .arr (encM (HV.int .u32)).k 105 ((encM (HV.int .u32)).E a3.2.2))
 refine bf hK (P2 [E11, (7, .int .u64 a3.1), (8, hI a3.2.1), (17, .bool (decide (0 ≤ a3.2.1)))] [O12]) ?_
 refine zae rfl (fun hc => ?_) (fun hc => ?_)
 ·obtain ⟨hc, h⟩ := cT hc h
  refine zac ?_
  refine zad (zaf ?_)
  refine zaa rfl fun K hK => mv rfl rfl (bv rfl (qae rfl rfl (qtH (by decide))) (mv rfl rfl (mv rfl rfl ?_)))
  obtain ⟨x7, h8, h⟩ := bS h
  refine bv rfl (qaJ qf9 qpu rfl rfl (qaw h8)) (bv rfl (qab qhP rfl (qaL (encM (HV.int .u32)) h8 (o := 0) rfl rfl)) (bv rfl (qj4 qhP qnA rfl) (bv rfl (qae rfl rfl b_or) (mv rfl rfl ?_))))
  let E13 : Nat × HV := (9, .int .u64 (IntKind.wrap .u64 (BitVec.ofInt (IntKind.bits .u64) (IntKind.wrap .u64 (a3.1 * 2 ^ (min (32 : Int).toNat (IntKind.bits .u64)))) ||| BitVec.ofInt (IntKind.bits .u64) (IntKind.wrap .u64 x7)).toNat))
  refine bf hK (P2 [E11, (8, hI a3.2.1), E13] [O12]) ?_
  refine AW.dl follows fun K hK F hF => ?_
  obtain ⟨h90501, h⟩ := ifN h
  obtain ⟨h91001, h⟩ := ifN h
  obtain ⟨x91101, h91102, h⟩ := bS h
  refine l_go (L' := []) hF rfl (s' := (P2 [E11, (8, hI a3.2.1), E13] [O12])) ?_ (le_q rfl rfl)
  let E14 : Nat × HV := (7, .int .u64 (Int.tmod (IntKind.wrap .u64 (BitVec.ofInt (IntKind.bits .u64) (IntKind.wrap .u64 (a3.1 * 2 ^ (min (32 : Int).toNat (IntKind.bits .u64)))) ||| BitVec.ofInt (IntKind.bits .u64) (IntKind.wrap .u64 x7)).toNat) (IntKind.wrap .u64 p1)))
  let O15 : Nat × Nat × AObj := (200012, v1, .arr (encM (HV.int .u32)).k 105 ((encM (HV.int .u32)).E ((a3.2.2).set (a3.2.1).toNat (IntKind.wrap .u32 (IntKind.wrap .u64 (Int.tdiv (IntKind.wrap .u64 (BitVec.ofInt (IntKind.bits .u64) (IntKind.wrap .u64 (a3.1 * 2 ^ (min (32 : Int).toNat (IntKind.bits .u64)))) ||| BitVec.ofInt (IntKind.bits .u64) (IntKind.wrap .u64 x7)).toNat) (IntKind.wrap .u64 p1)))))))
  have g9_14 : F [0, 1, 2, 3, 4, 5, 6, 7, 8, 9, 10, 11, 12, 13] (P2 [E11, E14, (8, hI a3.2.1)] [O15]) := by
   refine qpc hF rfl rfl (hK _ (AW.to (qa9 (s' := (P2 [(6, .ar 200012 v1 (encM (HV.int .u32)).k 0 (((a3.2.2).set (a3.2.1).toNat (IntKind.wrap .u32 (IntKind.wrap .u64 (Int.tdiv (IntKind.wrap .u64 (BitVec.ofInt (IntKind.bits .u64) (IntKind.wrap .u64 (a3.1 * 2 ^ (min (32 : Int).toNat (IntKind.bits .u64)))) ||| BitVec.ofInt (IntKind.bits .u64) (IntKind.wrap .u64 x7)).toNat) (IntKind.wrap .u64 p1))))).length)), E14, (8, hI a3.2.1)] [O15])) (zak ⟨rfl, rfl, arl (by first | rfl | simp only [List.length_set, qcP, qbN]), rfl, rfl, trivial⟩ ⟨rfl, trivial⟩) ?_)))
   refine zab rfl fun K hK => mv rfl rfl (bv rfl (qae rfl rfl qhk) (mv rfl rfl ?_))
   refine qah (hK _ ?_)
   exact to_L ⟨(Int.tmod (IntKind.wrap .u64 (BitVec.ofInt (IntKind.bits .u64) (IntKind.wrap .u64 (a3.1 * 2 ^ (min (32 : Int).toNat (IntKind.bits .u64)))) ||| BitVec.ofInt (IntKind.bits .u64) (IntKind.wrap .u64 x7)).toNat) (IntKind.wrap .u64 p1), IntKind.wrap .i64 (a3.2.1 - 1), (a3.2.2).set (a3.2.1).toNat (IntKind.wrap .u32 (IntKind.wrap .u64 (Int.tdiv (IntKind.wrap .u64 (BitVec.ofInt (IntKind.bits .u64) (IntKind.wrap .u64 (a3.1 * 2 ^ (min (32 : Int).toNat (IntKind.bits .u64)))) ||| BitVec.ofInt (IntKind.bits .u64) (IntKind.wrap .u64 x7)).toNat) (IntKind.wrap .u64 p1))))), (), h, rfl⟩
  let P : ASf := fun t H => ⟨(0, slE (encM (HV.int .u32)) p0) :: (1, .int .u32 p1) :: (6, .ar 200012 v1 (encM (HV.int .u32)).k 0 ((a3.2.2).length)) :: (8, hI a3.2.1) :: (9, .int .u64 (IntKind.wrap .u64 (BitVec.ofInt (IntKind.bits .u64) (IntKind.wrap .u64 (a3.1 * 2 ^ (min (32 : Int).toNat (IntKind.bits .u64)))) ||| BitVec.ofInt (IntKind.bits .u64) (IntKind.wrap .u64 x7)).toNat)) :: (28, .ar 200012 v1 (encM (HV.int .u32)).k 0 ((a3.2.2).length)) :: t, (200012, v1, .arr (encM (HV.int .u32)).k 105 ((encM (HV.int .u32)).E a3.2.2)) :: H⟩
  let E16 : Nat × HV := (38, .int .u64 (Int.tmod (IntKind.wrap .u64 (BitVec.ofInt (IntKind.bits .u64) (IntKind.wrap .u64 (a3.1 * 2 ^ (min (32 : Int).toNat (IntKind.bits .u64)))) ||| BitVec.ofInt (IntKind.bits .u64) (IntKind.wrap .u64 x7)).toNat) (IntKind.wrap .u64 p1)))
  have g9_13 : F [0, 1, 2, 3, 4, 5, 6, 7, 8, 9, 10, 11, 12] (P2 [E11, (8, hI a3.2.1), E16] [O15]) := by
   refine qll hF rfl [13] rfl rfl ⟨?_, trivial⟩
   exact l_ov rfl rfl rfl rfl (qas rfl rfl).2 (lg hF (g9_14))
  let E17 : Nat × HV := (34, .int .u32 (IntKind.wrap .u32 (IntKind.wrap .u64 (Int.tdiv (IntKind.wrap .u64 (BitVec.ofInt (IntKind.bits .u64) (IntKind.wrap .u64 (a3.1 * 2 ^ (min (32 : Int).toNat (IntKind.bits .u64)))) ||| BitVec.ofInt (IntKind.bits .u64) (IntKind.wrap .u64 x7)).toNat) (IntKind.wrap .u64 p1)))))
  have g9_12 : F [0, 1, 2, 3, 4, 5, 6, 7, 8, 9, 10, 11] (P2 [E11, (8, hI a3.2.1), E17, E16, (39, .ptr 200012 v1 ((a3.2.1).toNat * (encM (HV.int .u32)).k))] [O12]) := by
   refine qll hF rfl [12] rfl rfl ⟨?_, trivial⟩
   refine l_op rfl rfl rfl (qe3 (encM (HV.int .u32)) (l := a3.2.2) (j := a3.2.1) (v := IntKind.wrap .u32 (IntKind.wrap .u64 (Int.tdiv (IntKind.wrap .u64 (BitVec.ofInt (IntKind.bits .u64) (IntKind.wrap .u64 (a3.1 * 2 ^ (min (32 : Int).toNat (IntKind.bits .u64)))) ||| BitVec.ofInt (IntKind.bits .u64) (IntKind.wrap .u64 x7)).toNat) (IntKind.wrap .u64 p1)))) rfl rfl rfl qhP rfl rfl rfl (qaw h91102) ?_)
   exact qah (lg hF (g9_13))
  let E18 : Nat × HV := (28, .ar 200012 v1 (encM (HV.int .u32)).k 0 ((a3.2.2).length))
  have g9_11 : F [0, 1, 2, 3, 4, 5, 6, 7, 8, 9, 10] (P2 [E11, (8, hI a3.2.1), E18, (29, hI a3.2.1), E17, E16] [O12]) := by
   refine qhB (i := 11) hF rfl rfl rfl (qd2 qf9 qpu rfl rfl (qaw h91102) rfl) ?_
   exact lg hF (g9_12)
  let E19 : Nat × HV := (35, .int .u64 (IntKind.wrap .u64 (BitVec.ofInt (IntKind.bits .u64) (IntKind.wrap .u64 (a3.1 * 2 ^ (min (32 : Int).toNat (IntKind.bits .u64)))) ||| BitVec.ofInt (IntKind.bits .u64) (IntKind.wrap .u64 x7)).toNat))
  have g9_10 : F [0, 1, 2, 3, 4, 5, 6, 7, 8, 9] (P2 [E11, (8, hI a3.2.1), E18, (29, hI a3.2.1), E17, E19, (37, .int .u64 (IntKind.wrap .u64 p1))] [O12]) := by
   refine qiU (i := 10) hF rfl rfl rfl (qsR rfl rfl rfl (qtI h91001) rfl) ?_
   exact lg hF (g9_11)
  have g9_9 : F [0, 1, 2, 3, 4, 5, 6, 7, 8] (P2 [E11, (8, hI a3.2.1), E18, (29, hI a3.2.1), E17, E19, (36, .int .u32 p1)] [O12]) := by
   refine qiU (i := 9) hF rfl rfl rfl (qmp rfl qhP qnA rfl) ?_
   exact lg hF (g9_10)
  have g9_8 : F [0, 1, 2, 3, 4, 5, 6, 7] (P2 [E11, (8, hI a3.2.1), E18, (29, hI a3.2.1), E17, E19] [O12]) := by
   refine qhB (i := 8) hF rfl rfl rfl (qas rfl rfl).2 ?_
   exact lg hF (g9_9)
  have g9_7 : F [0, 1, 2, 3, 4, 5, 6] (P [(29, hI a3.2.1), (34, .int .u32 (IntKind.wrap .u32 (IntKind.wrap .u64 (Int.tdiv (IntKind.wrap .u64 (BitVec.ofInt (IntKind.bits .u64) (IntKind.wrap .u64 (a3.1 * 2 ^ (min (32 : Int).toNat (IntKind.bits .u64)))) ||| BitVec.ofInt (IntKind.bits .u64) (IntKind.wrap .u64 x7)).toNat) (IntKind.wrap .u64 p1)))))] []) := by
   refine qhB (i := 7) hF rfl rfl rfl (qas rfl rfl).2 ?_
   exact lg hF (g9_8)
  have g9_6 : F [0, 1, 2, 3, 4, 5] (P [(29, hI a3.2.1), (33, .int .u64 (IntKind.wrap .u64 (Int.tdiv (IntKind.wrap .u64 (BitVec.ofInt (IntKind.bits .u64) (IntKind.wrap .u64 (a3.1 * 2 ^ (min (32 : Int).toNat (IntKind.bits .u64)))) ||| BitVec.ofInt (IntKind.bits .u64) (IntKind.wrap .u64 x7)).toNat) (IntKind.wrap .u64 p1))))] []) := by
   refine qiU (i := 6) hF rfl rfl rfl (qmp rfl qnA qhP rfl) ?_
   exact lg hF (g9_7)
  have g9_5 : F [0, 1, 2, 3, 4] (P [(29, hI a3.2.1), (30, .int .u64 (IntKind.wrap .u64 (BitVec.ofInt (IntKind.bits .u64) (IntKind.wrap .u64 (a3.1 * 2 ^ (min (32 : Int).toNat (IntKind.bits .u64)))) ||| BitVec.ofInt (IntKind.bits .u64) (IntKind.wrap .u64 x7)).toNat)), (32, .int .u64 (IntKind.wrap .u64 p1))] []) := by
   refine qiU (i := 5) hF rfl rfl rfl (qsR rfl rfl rfl (qsY h90501) rfl) ?_
   exact lg hF (g9_6)
  have g9_4 : F [0, 1, 2, 3] (P [(29, hI a3.2.1), (30, .int .u64 (IntKind.wrap .u64 (BitVec.ofInt (IntKind.bits .u64) (IntKind.wrap .u64 (a3.1 * 2 ^ (min (32 : Int).toNat (IntKind.bits .u64)))) ||| BitVec.ofInt (IntKind.bits .u64) (IntKind.wrap .u64 x7)).toNat)), (31, .int .u32 p1)] []) := by
   refine qiU (i := 4) hF rfl rfl rfl (qmp rfl qhP qnA rfl) ?_
   exact lg hF (g9_5)
  have g9_3 : F [0, 1, 2] (P [(29, hI a3.2.1), (30, .int .u64 (IntKind.wrap .u64 (BitVec.ofInt (IntKind.bits .u64) (IntKind.wrap .u64 (a3.1 * 2 ^ (min (32 : Int).toNat (IntKind.bits .u64)))) ||| BitVec.ofInt (IntKind.bits .u64) (IntKind.wrap .u64 x7)).toNat))] []) := by
   refine qhB (i := 3) hF rfl rfl rfl (qas rfl rfl).2 ?_
   exact lg hF (g9_4)
  have g9_2 : F [0, 1] (P [(29, hI a3.2.1)] []) := by
   refine qhB (i := 2) hF rfl rfl rfl (qas rfl rfl).2 ?_
   exact lg hF (g9_3)
  have g9_1 : F [0] (P [] []) := by
   refine qhB (i := 1) hF rfl rfl rfl (qas rfl rfl).2 ?_
   exact lg hF (g9_2)
  have g9_0 : F [] (P2 [E11, (8, hI a3.2.1), E13] [O12]) := by
   refine qhB (i := 0) hF rfl rfl rfl (qas rfl rfl).2 ?_
   exact lg hF (g9_1)
  exact g9_0
 obtain ⟨hc, h⟩ := cF hc h
 refine AW.exit ?_
 exact to_L ⟨(a3.2.2, a3.1), (), h, rfl⟩
end Go.AW

namespace Go.AW
open Go
structure Lq {α : Type} (x y : Option α) : Prop where
 ap : ∀ r, x = some r → y = some r
theorem Lq.refl {α : Type} (x : Option α) : Lq x x := ⟨fun _ h => h⟩
theorem Lq.none {α : Type} {y : Option α} : Lq Option.none y := ⟨fun _ h => by cases h⟩
theorem Lq.bind {α β : Type} {x y : Option α} {f g : α → Option β} (h : Lq x y) (hk : ∀ a, Lq (f a) (g a)) : Lq (x.bind f) (y.bind g) := by
 refine ⟨fun r hr => ?_⟩
 obtain ⟨a, ha, hf⟩ := bS hr
 rw [h.ap a ha]
 exact (hk a).ap r hf
theorem zax {α : Type} {p : Prop} [Decidable p] {a a' b b' : Option α} (h1 : Lq a a') (h2 : Lq b b') : Lq (if p then a else b) (if p then a' else b') := by
 refine ⟨fun r hr => ?_⟩
 by_cases hp : p
 ·rw [if_pos hp] at hr ⊢; exact h1.ap r hr
 rw [if_neg hp] at hr ⊢; exact h2.ap r hr
theorem Lq.jp {S R : Type} {M M' : S → Option R} {B B' : (S → Option R) → Option R} (hM : ∀ a, Lq (M a) (M' a)) (hB : ∀ k k' : S → Option R, (∀ a, Lq (k a) (k' a)) → Lq (B k) (B' k')) : Lq (Go.AW.jp M B) (Go.AW.jp M' B') := hB _ _ hM
theorem qlo {S X : Type} {f g : S → Option (Stp S X)} (h : ∀ s, Lq (f s) (g s)) : ∀ (n : Nat) (s : S) (r : X), iter f n s = some r → iter g n s = some r
 | 0, _, _, hr => hr
 | n + 1, s, r, hr => by
  simp only [iter] at hr ⊢
  split at hr
  ·rename_i s' hs
   rw [(h s).ap _ hs]
   exact qlo h n s' r hr
  ·rename_i x hs
   rw [(h s).ap _ hs]
   exact hr
  cases hr
def qgA {S X : Type} (body : S → Option (Stp S X)) (s : S) : Option X := iter body 1000000 s
theorem Lq.loop {S X : Type} {f g : S → Option (Stp S X)} {s : S} (h : ∀ s, Lq (f s) (g s)) : Lq (qgA f s) (loopW g s) := ⟨fun r hr => qh8 (qlo h _ s r hr)⟩
theorem Lq.lpO {V R Y : Type} {x y : Option (Ou V R)} {M M' : V → Option Y} {Rt Rt' : R → Option Y} (h : Lq x y) (hM : ∀ v, Lq (M v) (M' v)) (hR : ∀ r, Lq (Rt r) (Rt' r)) : Lq (Go.AW.lpO x M Rt) (Go.AW.lpO y M' Rt') := by
 refine ⟨fun r hr => ?_⟩
 unfold Go.AW.lpO at hr ⊢
 split at hr
 ·rename_i v
  rw [h.ap _ rfl]; exact (hM v).ap r hr
 ·rename_i v
  rw [h.ap _ rfl]; exact (hR v).ap r hr
 cases hr
theorem qlu {S α X : Type} {f g : S → α → Option (Stp S X)} (h : ∀ s a, Lq (f s a) (g s a)) : ∀ (l : List α) (s : S) (r : Ou S X), forL f l s = some r → forL g l s = some r
 | [], _, _, hr => hr
 | x :: l, s, r, hr => by
  simp only [forL] at hr ⊢
  split at hr
  ·rename_i s' hs
   rw [(h s x).ap _ hs]
   exact qlu h l s' r hr
  ·rename_i y hs
   rw [(h s x).ap _ hs]
   exact hr
  cases hr
theorem Lq.forL {S α X : Type} {f g : S → α → Option (Stp S X)} {l : List α} {s : S} (h : ∀ s a, Lq (f s a) (g s a)) : Lq (Go.AW.forL f l s) (Go.AW.forL g l s) := ⟨qlu h l s⟩
def qdL (p0 : List (Int)) : Option ((List (Int))) :=
 (qgA (S := (List Int)) (X := (List Int)) (fun a1 =>
   jp (fun (a5 : Bool) =>
    if a5 = true then
     if 0 ≤ (0 : Int) ∧ (0 : Int) ≤ IntKind.wrap .i64 (((a1).length : Int) - 1) ∧ IntKind.wrap .i64 (((a1).length : Int) - 1) ≤ (a1.length : Int) then
      some (Stp.next ((a1.take (IntKind.wrap .i64 (((a1).length : Int) - 1)).toNat).drop (0 : Int).toNat))
     else none
    else
     some (Stp.exit a1))
    fun k7 =>
    if 0 < ((a1).length : Int) then
     (idx a1 (IntKind.wrap .i64 (((a1).length : Int) - 1))).bind fun x9 =>
     k7 (decide (x9 = 0))
    else
     k7 false) p0).bind fun a12 =>
 some a12
set_option maxHeartbeats 1600000 in
theorem qfG {p0 : List (Int)} : Lq (qdL p0) (qcm p0) := by
 unfold qdL qcm
 repeat' with_reducible first | intro _ | exact Lq.refl _ | exact Lq.none | apply zax | apply Lq.bind | apply Lq.jp | apply Lq.loop | apply Lq.lpO | apply Lq.forL | apply_assumption
def qd0 (p0 : Bool) (p1 : List (Int)) : Option (qgi) :=
 (qdL p1).bind fun x2 =>
 if ((x2).length : Int) = 0 then
  some (false, ([] : List UInt8))
 else
  if 0 ≤ (0 : Int) ∧ (0 : Int) ≤ IntKind.wrap .i64 (4 * ((x2).length : Int)) ∧ (IntKind.wrap .i64 (4 * ((x2).length : Int)) : Int) * 1 ≤ 281474976710656 then
   (qgA (S := Int × (List Int)) (X := (List Int)) (fun a6 =>
     if 0 ≤ a6.1 then
      (qgA (S := Int × (List Int)) (X := (List Int)) (fun a10 =>
        if 0 ≤ a10.1 then
         jp (fun (a14 : (List Int)) =>
          some (Stp.next (IntKind.wrap .i64 (a10.1 - 1), a14)))
          fun k16 =>
          (idx x2 a6.1).bind fun x17 =>
          if 0 ≤ (IntKind.wrap .i64 (8 * a10.1)) then
           jp (fun (a20 : Bool) =>
            if a20 = true then
             if fits 1 ((a10.2 : List Int).length + ([IntKind.wrap .u8 (Int.fdiv x17 (2 ^ (min ((IntKind.wrap .i64 (8 * a10.1))).toNat (IntKind.bits .u32))))]).length) then
              k16 (a10.2 ++ [IntKind.wrap .u8 (Int.fdiv x17 (2 ^ (min ((IntKind.wrap .i64 (8 * a10.1))).toNat (IntKind.bits .u32))))])
             else none
            else
             k16 a10.2)
            fun k22 =>
            if (IntKind.wrap .u8 (Int.fdiv x17 (2 ^ (min ((IntKind.wrap .i64 (8 * a10.1))).toNat (IntKind.bits .u32))))) ≠ 0 then
             k22 true
            else
             k22 (decide (0 < (((a10.2).length : Nat) : Int)))
          else none
        else
         some (Stp.exit a10.2)) (3, a6.2)).bind fun a26 =>
      some (Stp.next (IntKind.wrap .i64 (a6.1 - 1), a26))
     else
      some (Stp.exit a6.2)) (IntKind.wrap .i64 (((x2).length : Int) - 1), List.replicate (0 : Int).toNat (0 : Int))).bind fun a28 =>
   some (p0, a28.map fun n => UInt8.ofNat n.toNat)
  else none
set_option maxHeartbeats 1600000 in
theorem le_integer_number {p0 : Bool} {p1 : List (Int)} : Lq (qd0 p0 p1) (qcZ p0 p1) := by
 unfold qd0 qcZ
 repeat' with_reducible first | intro _ | exact Lq.refl _ | exact Lq.none | apply zax | apply Lq.bind | apply Lq.jp | apply Lq.loop | apply Lq.lpO | apply Lq.forL | apply_assumption | apply qfG
def qen (p0 : List (Int)) (p1 : Int) : Option ((List (Int)) × Int) :=
 if 0 ≤ (((p0).length : Int) : Int) ∧ (((p0).length : Int) : Int) ≤ ((p0).length : Int) ∧ (((p0).length : Int) : Int) * 4 ≤ 281474976710656 then
  (qgA (S := Int × Int × (List Int)) (X := (List Int) × Int) (fun a3 =>
      if 0 ≤ a3.2.1 then
       (idx p0 a3.2.1).bind fun x7 =>
       if (IntKind.wrap .u64 p1) ≠ 0 then
        if (IntKind.wrap .u64 p1) ≠ 0 then
         (idx a3.2.2 a3.2.1).bind fun x91101 =>
         some (Stp.next (Int.tmod (IntKind.wrap .u64 (BitVec.ofInt (IntKind.bits .u64) (IntKind.wrap .u64 (a3.1 * 2 ^ (min (32 : Int).toNat (IntKind.bits .u64)))) ||| BitVec.ofInt (IntKind.bits .u64) (IntKind.wrap .u64 x7)).toNat) (IntKind.wrap .u64 p1), IntKind.wrap .i64 (a3.2.1 - 1), (a3.2.2).set (a3.2.1).toNat (IntKind.wrap .u32 (IntKind.wrap .u64 (Int.tdiv (IntKind.wrap .u64 (BitVec.ofInt (IntKind.bits .u64) (IntKind.wrap .u64 (a3.1 * 2 ^ (min (32 : Int).toNat (IntKind.bits .u64)))) ||| BitVec.ofInt (IntKind.bits .u64) (IntKind.wrap .u64 x7)).toNat) (IntKind.wrap .u64 p1))))))
        else none
       else none
      else
       some (Stp.exit (a3.2.2, a3.1))) (0, IntKind.wrap .i64 (((p0).length : Int) - 1), List.replicate (((p0).length : Int)).toNat (0 : Int))).bind fun a10 =>
  (qdL a10.1).bind fun x12 =>
  some (x12, IntKind.wrap .u32 a10.2)
 else none
set_option maxHeartbeats 1600000 in
theorem le_integer_short {p0 : List (Int)} {p1 : Int} : Lq (qen p0 p1) (qdn p0 p1) := by
 unfold qen qdn
 repeat' with_reducible first | intro _ | exact Lq.refl _ | exact Lq.none | apply zax | apply Lq.bind | apply Lq.jp | apply Lq.loop | apply Lq.lpO | apply Lq.forL | apply_assumption | apply qfG
open Go.Proofs
def L16 : List Nat := [1, 2, 3, 4, 5, 6, 7, 8, 9, 10, 11, 12, 13, 14, 15, 16]
def u32z (n : Nat) : List Int := if n = 0 then [] else [(n : Int)]
def u8z (n : Nat) : List UInt8 := if n = 0 then [] else [UInt8.ofNat n]
abbrev hvN (l : List Int) : HV := slE (encM (HV.int .u32)) l
abbrev hvI (a : qgi) : HV := HV.agg [HV.bool a.1, HV.str a.2]
def shF (a b : Nat) : FuncId × List HV × HV := (200, [hvN [(a : Int)], HV.int .u32 b], HV.tup [hvN (u32z (a / b)), HV.int .u32 (a % b : Nat)])
def numA : List (Bool × List Int × Nat) := (true, [], 0) :: (0 :: L16).flatMap fun n => [(false, u32z n, n), (false, [(n : Int), 0], n)]
def numR (x : Bool × List Int × Nat) : qgi := (x.1 && !(x.2.2 == 0), u8z x.2.2)
def numF (x : Bool × List Int × Nat) : FuncId × List HV × HV := (71, [HV.bool x.1, hvN x.2.1], hvI (numR x))
def qi3 : List (FuncId × List HV × HV) := numA.map numF
def qi2 : List (FuncId × List HV × HV) := (L16.flatMap fun a => [shF a 1, shF a 2]) ++ (L16.flatMap fun b => [shF 1 b, shF 2 b])
theorem qrp : ∀ a ∈ L16, ∀ b ∈ L16, qen [(a : Int)] (b : Int) = some (u32z (a / b), ((a % b : Nat) : Int)) := by decide +kernel
theorem qtw : ∀ x ∈ numA, qd0 x.1 x.2.1 = some (numR x) := by decide +kernel
theorem qpr : ∀ e ∈ qi3, Fresh Tryz.prog e.1 e.2.1 e.2.2 := by
 intro e he
 simp only [qi3, List.mem_map] at he
 obtain ⟨x, hx, rfl⟩ := he
 exact (qhK (le_integer_number.ap _ (qtw x hx))).fresh ⟨trivial, trivial, trivial⟩ rfl
theorem qpq : ∀ e ∈ qi2, Pure Tryz.prog e.1 e.2.1 (· = e.2.2) := by
 intro e he
 have key : ∀ a ∈ L16, ∀ b ∈ L16, Pure Tryz.prog (shF a b).1 (shF a b).2.1 (· = (shF a b).2.2) := fun a ha b hb => qio (le_integer_short.ap _ (qrp a ha b hb))
 have h1 : 1 ∈ L16 := by decide
 have h2 : 2 ∈ L16 := by decide
 simp only [qi2, List.mem_append, List.mem_flatMap, List.mem_cons, List.not_mem_nil, or_false] at he
 rcases he with ⟨a, ha, rfl | rfl⟩ | ⟨b, hb, rfl | rfl⟩
 ·exact key a ha 1 h1
 ·exact key a ha 2 h2
 ·exact key 1 h1 b hb
 exact key 2 h2 b hb
def jEa : qap := ([[48, 48], [48, 49], [49, 48]], [[48], [49]])
def gEa : qaa := (2, 2, [(0, 0, 0), (0, 1, 1), (1, 0, 0)])
def qb5 (p0 : qap) (p1 : qaa) (p2 : List (Int)) : Option (Int) :=
 if p0 = jEa ∧ p1 = gEa ∧ p2 = [0, 0] then some 0 else none
def qbf (p0 : List UInt8) : Option Int :=
 if p0 = [48, 48] then some (-2) else if p0 = [48, 48, 48] then some (-3) else if p0 = [49, 48, 48] then some (-1) else none
def qbF (p0 : qaa) (p1 : List Int) (p2 : List UInt8) : Option (List Int) :=
 if p0 = gEa ∧ (p1 = [0, 1] ∧ p2 = [48, 48] ∨ p1 = [0] ∧ (p2 = [48, 48, 48] ∨ p2 = [49, 48, 48])) then some [0] else none
def qbz (p0 : qap) (p1 : qaa) (p2 : List (Int)) : Option ((List UInt8) × Int) :=
 (qb5 p0 p1 p2).bind fun x1 =>
 if x1 ≠ 0 then
  some (([] : List UInt8), x1)
 else
  if ((p2).length : Int) = 0 then
   some (([] : List UInt8), 0)
  else
   (idx p0.1 0).bind fun x3 =>
   (idx p0.2 0).bind fun x5 =>
   if (IntKind.wrap .i64 (((x3).length : Int) + ((x5).length : Int))) ≠ 0 then
    if (IntKind.wrap .i64 (Int.tdiv (IntKind.wrap .i64 (65536 + ((x5).length : Int))) (IntKind.wrap .i64 (((x3).length : Int) + ((x5).length : Int))))) < ((p2).length : Int) then
     some (([] : List UInt8), 4)
    else
     if 0 ≤ (p1.2.1 : Int) ∧ (p1.2.1 : Int) ≤ p1.2.1 ∧ (p1.2.1 : Int) * 8 ≤ 281474976710656 then
      (loopW (S := Int × (List Int)) (X := (List Int)) (fun a11 =>
          if a11.1 < (((List.replicate (p1.2.1).toNat (0 : Int)).length : Nat) : Int) then
           (idx a11.2 a11.1).bind fun x15 =>
           some (Stp.next (IntKind.wrap .i64 (a11.1 + 1), (a11.2).set (a11.1).toNat a11.1))
          else
           some (Stp.exit a11.2)) (0, List.replicate (p1.2.1).toNat (0 : Int))).bind fun a17 =>
      (idx p2 0).bind fun x22 =>
      (idx p0.1 x22).bind fun x24 =>
      jp (fun (a26 : (List Int) × Int) =>
        if 0 ≤ (1 : Int) ∧ (1 : Int) ≤ ((p2).length : Int) ∧ ((p2).length : Int) ≤ (p2.length : Int) then
         lpO (loopW (S := Int × (List Int) × (List UInt8) × Int) (X := Ou ((List UInt8)) ((List UInt8) × Int)) (fun a30 =>
             if a30.1 < (((p2.take (((p2).length : Int)).toNat).drop (1 : Int).toNat).length : Int) then
              (idx ((p2.take (((p2).length : Int)).toNat).drop (1 : Int).toNat) a30.1).bind fun x34 =>
              jp (fun (a37 : (List UInt8) × Bool) =>
                if (!a37.2) = true then
                 some (Stp.exit (Ou.ret (([] : List UInt8), 13)))
                else
                 (idx p0.1 x34).bind fun x40 =>
                 if a37.1.length + x40.length ≤ maxLen then
                  jp (fun (a43 : (List Int) × Int) =>
                    some (Stp.next (IntKind.wrap .i64 (a30.1 + 1), a43.1, a30.2.2.1 ++ (a37.1 ++ x40), a43.2)))
                    fun k45 =>
                   if fits 1 (a30.2.2.1.length + (a37.1 ++ x40).length) then
                    (qbf (a37.1 ++ x40)).bind fun x48 =>
                    (qbF p1 a30.2.1 (a37.1 ++ x40)).bind fun x50 =>
                    k45 (x50, IntKind.wrap .i64 (a30.2.2.2 + x48))
                   else none
                 else none)
                fun k39 =>
               (loopW (S := (List UInt8) × Int × Bool × Int) (X := (List UInt8) × Bool) (fun a52 =>
                   if a52.2.2.2 < ((p0.2).length : Int) then
                    jp (fun (a56 : (List UInt8) × Int × Bool) =>
                      some (Stp.next (a56.1, a56.2.1, a56.2.2, IntKind.wrap .i64 (a52.2.2.2 + 1))))
                      fun k58 =>
                     (idx p0.2 a52.2.2.2).bind fun x59 =>
                     jp (fun (a61 : Int × Bool) =>
                       jp (fun (a64 : Bool) =>
                         if a64 = true then
                          k58 (x59, a61.1, true)
                         else
                          k58 (a52.1, a52.2.1, a52.2.2.1))
                         fun k66 =>
                        if a61.2 = true then
                         if (!a52.2.2.1) = true then
                          k66 true
                         else
                          k66 (decide (a61.1 < a52.2.1))
                        else
                         k66 false)
                       fun k63 =>
                      (idx p0.1 x34).bind fun x69 =>
                      if x59.length + x69.length ≤ maxLen then
                       (qbf (x59 ++ x69)).bind fun x72 =>
                       (idx p0.1 x34).bind fun x74 =>
                       if x59.length + x74.length ≤ maxLen then
                        (qbF p1 a30.2.1 (x59 ++ x74)).bind fun x77 =>
                        k63 (max (IntKind.wrap .i64 (a30.2.2.2 + x72)) (IntKind.wrap .i64 (0 - (IntKind.wrap .i64 (a30.2.2.2 + x72)))), decide (0 < ((x77).length : Int)))
                       else none
                      else none
                   else
                    some (Stp.exit (a52.1, a52.2.2.1))) (([] : List UInt8), 0, false, 0)).bind fun a79 =>
               k39 (a79.1, a79.2)
             else
              some (Stp.exit (Ou.go a30.2.2.1))) (0, a26.1, ([] : List UInt8) ++ x24, a26.2)) (fun a81 =>
             some (a81, 0)) some
        else none)
        fun k28 =>
       if fits 1 (([] : List UInt8).length + x24.length) then
        (qbf x24).bind fun x86 =>
        (qbF p1 a17 x24).bind fun x88 =>
        k28 (x88, IntKind.wrap .i64 (0 + x86))
       else none
     else none
   else none
def qaX (p0 : qap) (p1 : qaa) (p2 p3 : Int) : Option (List Int × Int) :=
 if p0 = jEa ∧ p1 = gEa ∧ p2 = 0 ∧ p3 = 0 then some ([0, 1], 0) else if p0 = jEa ∧ p1 = gEa ∧ p2 = 1 ∧ p3 = 2 then some ([0], 0) else none
def qb7 (p0 : qap) : Option (qgh × Int) := if p0 = jEa then some (((false, [1]), (false, [3])), 0) else none
def qb3 (p0 p1 : Int) : Option (qgh × Int) := if p0 = 1 ∧ p1 = 3 then some (((false, [1]), (false, [3])), 0) else none
def qdI  : Option (Bool) :=
 (qcl).bind fun x2 =>
 (qaX ([[48, 48], [48, 49], [49, 48]], [[48], [49]]) x2 0 0).bind fun x4 =>
 (qcl).bind fun x6 =>
 (qaX ([[48, 48], [48, 49], [49, 48]], [[48], [49]]) x6 1 2).bind fun x8 =>
 (qcl).bind fun x10 =>
 (qbz ([[48, 48], [48, 49], [49, 48]], [[48], [49]]) x10 [0, 0]).bind fun x12 =>
 (qb7 ([[48, 48], [48, 49], [49, 48]], [[48], [49]])).bind fun x14 =>
 (qb3 1 3).bind fun x17 =>
 jp (fun (a20 : Bool) =>
   some a20)
   fun k22 =>
  if (max (max (max x4.2 x8.2) x12.2) x14.2) = 0 then
   (qaZ x4.1 [0, 1]).bind fun x23 =>
   if x23 = true then
    (qaZ x8.1 [0]).bind fun x25 =>
    if x25 = true then
     if x12.1 = [48, 48, 49, 48, 48] then
      k22 (decide (x14.1 = x17.1))
     else
      k22 false
    else
     k22 false
   else
    k22 false
  else
   k22 false
def qdE (p0 : qap) (p1 : qaa) (p2 : List (Int)) : Option (Int) :=
 if p0 = jEa ∧ p1 = gEa ∧ p2 = [0, 0] then some 0 else none
set_option maxHeartbeats 1600000 in
theorem qgF {p0 : qap} {p1 : qaa} {p2 : List (Int)} : Lq (qdE p0 p1 p2) (qb5 p0 p1 p2) := by
 unfold qdE qb5
 repeat' with_reducible first | intro _ | exact Lq.refl _ | exact Lq.none | apply zax | apply Lq.bind | apply Lq.jp | apply Lq.loop | apply Lq.lpO | apply Lq.forL | apply_assumption
def qca (p0 : List UInt8) : Option Int :=
 if p0 = [48, 48] then some (-2) else if p0 = [48, 48, 48] then some (-3) else if p0 = [49, 48, 48] then some (-1) else none
set_option maxHeartbeats 1600000 in
theorem qgE {p0 : List UInt8} : Lq (qca p0) (qbf p0) := by
 unfold qca qbf
 repeat' with_reducible first | intro _ | exact Lq.refl _ | exact Lq.none | apply zax | apply Lq.bind | apply Lq.jp | apply Lq.loop | apply Lq.lpO | apply Lq.forL | apply_assumption
def qcD (p0 : qaa) (p1 : List Int) (p2 : List UInt8) : Option (List Int) :=
 if p0 = gEa ∧ (p1 = [0, 1] ∧ p2 = [48, 48] ∨ p1 = [0] ∧ (p2 = [48, 48, 48] ∨ p2 = [49, 48, 48])) then some [0] else none
set_option maxHeartbeats 1600000 in
theorem qhR {p0 : qaa} {p1 : List Int} {p2 : List UInt8} : Lq (qcD p0 p1 p2) (qbF p0 p1 p2) := by
 unfold qcD qbF
 repeat' with_reducible first | intro _ | exact Lq.refl _ | exact Lq.none | apply zax | apply Lq.bind | apply Lq.jp | apply Lq.loop | apply Lq.lpO | apply Lq.forL | apply_assumption
def qdF (p0 : qap) (p1 : qaa) (p2 : List (Int)) : Option ((List UInt8) × Int) :=
 (qdE p0 p1 p2).bind fun x1 =>
 if x1 ≠ 0 then
  some (([] : List UInt8), x1)
 else
  if ((p2).length : Int) = 0 then
   some (([] : List UInt8), 0)
  else
   (idx p0.1 0).bind fun x3 =>
   (idx p0.2 0).bind fun x5 =>
   if (IntKind.wrap .i64 (((x3).length : Int) + ((x5).length : Int))) ≠ 0 then
    if (IntKind.wrap .i64 (Int.tdiv (IntKind.wrap .i64 (65536 + ((x5).length : Int))) (IntKind.wrap .i64 (((x3).length : Int) + ((x5).length : Int))))) < ((p2).length : Int) then
     some (([] : List UInt8), 4)
    else
     if 0 ≤ (p1.2.1 : Int) ∧ (p1.2.1 : Int) ≤ p1.2.1 ∧ (p1.2.1 : Int) * 8 ≤ 281474976710656 then
      (qgA (S := Int × (List Int)) (X := (List Int)) (fun a11 =>
          if a11.1 < (((List.replicate (p1.2.1).toNat (0 : Int)).length : Nat) : Int) then
           (idx a11.2 a11.1).bind fun x15 =>
           some (Stp.next (IntKind.wrap .i64 (a11.1 + 1), (a11.2).set (a11.1).toNat a11.1))
          else
           some (Stp.exit a11.2)) (0, List.replicate (p1.2.1).toNat (0 : Int))).bind fun a17 =>
      (idx p2 0).bind fun x22 =>
      (idx p0.1 x22).bind fun x24 =>
      jp (fun (a26 : (List Int) × Int) =>
        if 0 ≤ (1 : Int) ∧ (1 : Int) ≤ ((p2).length : Int) ∧ ((p2).length : Int) ≤ (p2.length : Int) then
         lpO (qgA (S := Int × (List Int) × (List UInt8) × Int) (X := Ou ((List UInt8)) ((List UInt8) × Int)) (fun a30 =>
             if a30.1 < (((p2.take (((p2).length : Int)).toNat).drop (1 : Int).toNat).length : Int) then
              (idx ((p2.take (((p2).length : Int)).toNat).drop (1 : Int).toNat) a30.1).bind fun x34 =>
              jp (fun (a37 : (List UInt8) × Bool) =>
                if (!a37.2) = true then
                 some (Stp.exit (Ou.ret (([] : List UInt8), 13)))
                else
                 (idx p0.1 x34).bind fun x40 =>
                 if a37.1.length + x40.length ≤ maxLen then
                  jp (fun (a43 : (List Int) × Int) =>
                    some (Stp.next (IntKind.wrap .i64 (a30.1 + 1), a43.1, a30.2.2.1 ++ (a37.1 ++ x40), a43.2)))
                    fun k45 =>
                   if fits 1 (a30.2.2.1.length + (a37.1 ++ x40).length) then
                    (qca (a37.1 ++ x40)).bind fun x48 =>
                    (qcD p1 a30.2.1 (a37.1 ++ x40)).bind fun x50 =>
                    k45 (x50, IntKind.wrap .i64 (a30.2.2.2 + x48))
                   else none
                 else none)
                fun k39 =>
               (qgA (S := (List UInt8) × Int × Bool × Int) (X := (List UInt8) × Bool) (fun a52 =>
                   if a52.2.2.2 < ((p0.2).length : Int) then
                    jp (fun (a56 : (List UInt8) × Int × Bool) =>
                      some (Stp.next (a56.1, a56.2.1, a56.2.2, IntKind.wrap .i64 (a52.2.2.2 + 1))))
                      fun k58 =>
                     (idx p0.2 a52.2.2.2).bind fun x59 =>
                     jp (fun (a61 : Int × Bool) =>
                       jp (fun (a64 : Bool) =>
                         if a64 = true then
                          k58 (x59, a61.1, true)
                         else
                          k58 (a52.1, a52.2.1, a52.2.2.1))
                         fun k66 =>
                        if a61.2 = true then
                         if (!a52.2.2.1) = true then
                          k66 true
                         else
                          k66 (decide (a61.1 < a52.2.1))
                        else
                         k66 false)
                       fun k63 =>
                      (idx p0.1 x34).bind fun x69 =>
                      if x59.length + x69.length ≤ maxLen then
                       (qca (x59 ++ x69)).bind fun x72 =>
                       (idx p0.1 x34).bind fun x74 =>
                       if x59.length + x74.length ≤ maxLen then
                        (qcD p1 a30.2.1 (x59 ++ x74)).bind fun x77 =>
                        k63 (max (IntKind.wrap .i64 (a30.2.2.2 + x72)) (IntKind.wrap .i64 (0 - (IntKind.wrap .i64 (a30.2.2.2 + x72)))), decide (0 < ((x77).length : Int)))
                       else none
                      else none
                   else
                    some (Stp.exit (a52.1, a52.2.2.1))) (([] : List UInt8), 0, false, 0)).bind fun a79 =>
               k39 (a79.1, a79.2)
             else
              some (Stp.exit (Ou.go a30.2.2.1))) (0, a26.1, ([] : List UInt8) ++ x24, a26.2)) (fun a81 =>
             some (a81, 0)) some
        else none)
        fun k28 =>
       if fits 1 (([] : List UInt8).length + x24.length) then
        (qca x24).bind fun x86 =>
        (qcD p1 a17 x24).bind fun x88 =>
        k28 (x88, IntKind.wrap .i64 (0 + x86))
       else none
     else none
   else none
set_option maxHeartbeats 1600000 in
theorem le_merging_EncodeE {p0 : qap} {p1 : qaa} {p2 : List (Int)} : Lq (qdF p0 p1 p2) (qbz p0 p1 p2) := by
 unfold qdF qbz
 repeat' with_reducible first | intro _ | exact Lq.refl _ | exact Lq.none | apply zax | apply Lq.bind | apply Lq.jp | apply Lq.loop | apply Lq.lpO | apply Lq.forL | apply_assumption | apply qgF | apply qhR | apply qgE
theorem qex {S X : Type} (body : S → Option (Stp S X)) (s : S) : loopW body s = match body s with
  | none => none
  | some (.exit x) => some x
  | some (.next s') => loopW body s' := by
 cases h : body s with
 | none => exact qmd h
 | some r => cases r with
  | exit x => exact qeT h
  | next s' => exact qhc h
abbrev Gr := qaa
abbrev Ed := qam
def cmp3 (x y : Ed) : Int := if x.1 < y.1 then -1 else if y.1 < x.1 then 1 else if x.2.1 < y.2.1 then -1 else if y.2.1 < x.2.1 then 1 else if x.2.2 < y.2.2 then -1 else if y.2.2 < x.2.2 then 1 else 0
theorem cmpC (a b : Int) : qb9 a b = some (if a < b then -1 else if b < a then 1 else 0) := by
 unfold qb9 qcz
 simp only [ne_eq, not_true_eq_false, decide_false, Option.bind_some, Bool.false_eq_true, if_false]
 split <;> (try rfl)
 split <;> rfl
theorem wr0 : IntKind.wrap .i64 (0 + 1) = 1 := by decide
theorem wr1 : IntKind.wrap .i64 (1 + 1) = 2 := by decide
theorem wr2 : IntKind.wrap .i64 (2 + 1) = 3 := by decide
theorem qsH (a b c : Int) : idx [a, b, c] 0 = some a := rfl
theorem qsG (a b c : Int) : idx [a, b, c] 1 = some b := rfl
theorem qsF (a b c : Int) : idx [a, b, c] 2 = some c := rfl
theorem len3 (a b c : Int) : (([a, b, c] : List Int).length : Int) = 3 := rfl
theorem qsV (x y : Ed) : qbn x y = some (cmp3 x y) := by
 unfold qbn qdQ qbj cmp3
 simp only [Option.bind_some, len3]
 rw [qex]
 simp only [qsH, cmpC, Option.bind_some, wr0]
 by_cases a1 : x.1 < y.1
 ·simp [a1, lpO]
 by_cases a2 : y.1 < x.1
 ·simp [a1, a2, lpO]
 simp only [a1, a2, if_false, ne_eq, not_true_eq_false, if_true, Int.reduceLT, Int.reduceLE]
 rw [qex]
 simp only [qsG, cmpC, Option.bind_some, wr1]
 by_cases b1 : x.2.1 < y.2.1
 ·simp [b1, lpO]
 by_cases b2 : y.2.1 < x.2.1
 ·simp [b1, b2, lpO]
 simp only [b1, b2, if_false, ne_eq, not_true_eq_false, if_true, Int.reduceLT, Int.reduceLE]
 rw [qex]
 simp only [qsF, cmpC, Option.bind_some, wr2]
 by_cases c1 : x.2.2 < y.2.2
 ·simp [c1, lpO]
 by_cases c2 : y.2.2 < x.2.2
 ·simp [c1, c2, lpO]
 simp only [c1, c2, if_false, ne_eq, not_true_eq_false, if_true, Int.reduceLT, Int.reduceLE]
 rw [qex]
 simp [lpO]
theorem qq7 (x y : Ed) : qcx x y = some (cmp3 x y) := by
 unfold qcx cmp3
 rw [qex]
 simp only [qsH, Option.bind_some, wr0]
 by_cases a1 : x.1 < y.1
 ·simp [a1, lpO]
 by_cases a2 : y.1 < x.1
 ·simp [a1, a2, lpO]
 simp only [a1, a2, if_false, if_true, Int.reduceLT]
 rw [qex]
 simp only [qsG, Option.bind_some, wr1]
 by_cases b1 : x.2.1 < y.2.1
 ·simp [b1, lpO]
 by_cases b2 : y.2.1 < x.2.1
 ·simp [b1, b2, lpO]
 simp only [b1, b2, if_false, if_true, Int.reduceLT]
 rw [qex]
 simp only [qsF, Option.bind_some, wr2]
 by_cases c1 : x.2.2 < y.2.2
 ·simp [c1, lpO]
 by_cases c2 : y.2.2 < x.2.2
 ·simp [c1, c2, lpO]
 simp only [c1, c2, if_false, if_true, Int.reduceLT]
 rw [qex]
 simp [lpO]
theorem qep (g : Gr) : qbv g = qaS g := by
 unfold qbv qaS
 have key : ∀ (x : Ed) (k : Bool → Option (Stp Int (Ou Unit Int))), (if (min (min x.1 x.2.1) x.2.2) < 0 then k true else if g.2.1 ≤ (max x.1 x.2.2) then k true else k (decide (g.1 ≤ x.2.1))) =
   (if x.1 < 0 then k true else if g.2.1 ≤ x.1 then k true else if x.2.2 < 0 then k true else if g.2.1 ≤ x.2.2 then k true else if x.2.1 < 0 then k true else k (decide (g.1 ≤ x.2.1))) := by
  intro x k
  by_cases h1 : x.1 < 0
  ·rw [if_pos (by omega), if_pos h1]
  by_cases h2 : g.2.1 ≤ x.1
  ·rw [if_neg h1, if_pos h2]
   split
   ·rfl
   rw [if_pos (by omega)]
  by_cases h3 : x.2.2 < 0
  ·rw [if_neg h1, if_neg h2, if_pos h3, if_pos (by omega)]
  by_cases h4 : g.2.1 ≤ x.2.2
  ·rw [if_neg h1, if_neg h2, if_neg h3, if_pos h4]
   split
   ·rfl
   rw [if_pos (by omega)]
  by_cases h5 : x.2.1 < 0
  ·rw [if_neg h1, if_neg h2, if_neg h3, if_neg h4, if_pos h5, if_pos (by omega)]
  rw [if_neg h1, if_neg h2, if_neg h3, if_neg h4, if_neg h5, if_neg (by omega), if_neg (by omega)]
 simp only [qsV, qq7, key]
structure VG (g : Gr) : Prop where
 l1 : 1 ≤ g.1
 l2 : g.1 ≤ 256
 s0 : 0 ≤ g.2.1
 s1 : g.2.1 ≤ 64
 el : g.2.2.length ≤ 1024
 ed : ∀ x ∈ g.2.2, 0 ≤ x.1 ∧ x.1 < g.2.1 ∧ 0 ≤ x.2.2 ∧ x.2.2 < g.2.1 ∧ 0 ≤ x.2.1 ∧ x.2.1 < g.1
 ord : ∀ (i : Nat) (h : i + 1 < g.2.2.length), cmp3 (g.2.2[i]'(by omega)) g.2.2[i + 1] < 0
theorem qpg {α : Type} {l : List α} {i : Nat} (h : i < l.length) (hm : l.length ≤ 9223372036854775807) (h0 : 0 < i) : idx l (IntKind.wrap .i64 ((i : Int) - 1)) = some (l[i - 1]'(by omega)) := by
 rw [w64 (by omega) (by omega), show ((i : Int) - 1) = ((i - 1 : Nat) : Int) by omega]
 exact ix (by omega)
theorem qsB {V R Y : Type} {o : Option (Ou V R)} {M : V → Option Y} {Rt : R → Option Y} {C : Y → Prop} (Q : Ou V R → Prop) (h : ∃ x, o = some x ∧ Q x) (k : ∀ x, Q x → ∃ e, lpO (some x) M Rt = some e ∧ C e) : ∃ e, lpO o M Rt = some e ∧ C e := by
 obtain ⟨x, rfl, hq⟩ := h
 exact k x hq
theorem qgU (g : Gr) : ∃ e, qaS g = some e ∧ (e = 0 ↔ VG g) := by
  unfold qaS
  simp only [jp]
  by_cases h1 : g.1 < 1
  · exact ⟨12, by simp [h1], by simp; intro v; have := v.l1; omega⟩
  by_cases h2 : 256 < g.1
  · exact ⟨12, by simp [h1, h2], by simp; intro v; have := v.l2; omega⟩
  by_cases h3 : g.2.1 < 0
  · exact ⟨2, by simp [h1, h2, h3], by simp; intro v; have := v.s0; omega⟩
  by_cases h4 : 64 < g.2.1
  · exact ⟨4, by simp [h1, h2, h3, h4], by simp; intro v; have := v.s1; omega⟩
  by_cases h5 : 1024 < (g.2.2.length : Int)
  · exact ⟨4, by simp [h1, h2, h3, h4, h5], by simp; intro v; have := v.el; omega⟩
  simp only [h1, h2, h3, h4, h5, if_false, decide_false, Bool.false_eq_true, qq7, Option.bind_some, if_true]
  refine qsB (fun x => (x = .ret 2 ∧ ¬ VG g) ∨ (x = .ret 10 ∧ ¬ VG g) ∨ (x = .go () ∧ VG g)) ?_ ?_
  · refine qme g.2.2.length (fun i s => s = (i : Int) ∧ (∀ (j : Nat) (h : j < i) (hj : j < g.2.2.length), 0 ≤ g.2.2[j].1 ∧ g.2.2[j].1 < g.2.1 ∧ 0 ≤ g.2.2[j].2.2 ∧ g.2.2[j].2.2 < g.2.1 ∧ 0 ≤ g.2.2[j].2.1 ∧ g.2.2[j].2.1 < g.1) ∧
        ∀ (j : Nat) (h : j + 1 < i) (hj : j + 1 < g.2.2.length), cmp3 (g.2.2[j]'(by omega)) g.2.2[j + 1] < 0) ?_ ?_ 0 _ (Nat.zero_le _) ⟨rfl, fun _ h => by omega, fun _ h => by omega⟩
    · rintro i s hi ⟨rfl, he, ho⟩
      rw [if_pos (qcd hi), ix hi]
      simp only [Option.bind_some]
      by_cases hg : 0 ≤ g.2.2[i].1 ∧ g.2.2[i].1 < g.2.1 ∧ 0 ≤ g.2.2[i].2.2 ∧ g.2.2[i].2.2 < g.2.1 ∧ 0 ≤ g.2.2[i].2.1 ∧ g.2.2[i].2.1 < g.1
      · obtain ⟨e1, e2, e3, e4, e5, e6⟩ := hg
        rw [if_neg (by omega), if_neg (by omega), if_neg (by omega), if_neg (by omega), if_neg (by omega)]
        have hd : decide (g.1 ≤ g.2.2[i].2.1) = false := decide_eq_false (by omega)
        rw [hd]
        simp only [Bool.false_eq_true, if_false]
        have he' : ∀ (j : Nat) (h : j < i + 1) (hj : j < g.2.2.length), 0 ≤ g.2.2[j].1 ∧ g.2.2[j].1 < g.2.1 ∧ 0 ≤ g.2.2[j].2.2 ∧ g.2.2[j].2.2 < g.2.1 ∧ 0 ≤ g.2.2[j].2.1 ∧ g.2.2[j].2.1 < g.1 := by
          intro j hj hjl
          by_cases hji : j = i
          · subst hji; exact ⟨e1, e2, e3, e4, e5, e6⟩
          exact he j (by omega) hjl
        by_cases h0 : 0 < i
        · rw [if_pos (by omega), qpg hi (by omega) h0]
          simp only [Option.bind_some]
          by_cases hc : 0 ≤ cmp3 (g.2.2[i - 1]'(by omega)) g.2.2[i]
          · refine .inr ⟨.ret 10, by rw [if_pos (decide_eq_true hc)], .inr (.inl ⟨rfl, fun v => ?_⟩)⟩
            have := v.ord (i - 1) (by omega)
            simp only [show i - 1 + 1 = i by omega] at this
            omega
          refine .inl ⟨_, by rw [if_neg (by simpa using hc)], by rw [nx (by omega : g.2.2.length ≤ _) hi], he', fun j hj hjl => ?_⟩
          by_cases hji : j + 1 = i
          · have hj' : j = i - 1 := by omega
            subst hj'
            simp only [show i - 1 + 1 = i by omega]
            omega
          exact ho j (by omega) hjl
        refine .inl ⟨_, by rw [if_neg (by omega)], by rw [nx (by omega : g.2.2.length ≤ _) hi], he', fun j hj hjl => by omega⟩
      have hv : ¬ VG g := fun v => hg (v.ed _ (List.getElem_mem hi))
      refine .inr ⟨.ret 2, ?_, .inl ⟨rfl, hv⟩⟩
      by_cases e1 : g.2.2[i].1 < 0
      · rw [if_pos e1]
      rw [if_neg e1]
      by_cases e2 : g.2.1 ≤ g.2.2[i].1
      · rw [if_pos e2]
      rw [if_neg e2]
      by_cases e3 : g.2.2[i].2.2 < 0
      · rw [if_pos e3]
      rw [if_neg e3]
      by_cases e4 : g.2.1 ≤ g.2.2[i].2.2
      · rw [if_pos e4]
      rw [if_neg e4]
      by_cases e5 : g.2.2[i].2.1 < 0
      · rw [if_pos e5]
      rw [if_neg e5, if_pos (decide_eq_true (by omega))]
    rintro s ⟨rfl, he, ho⟩
    rw [if_neg (qaP _)]
    refine ⟨_, rfl, .inr (.inr ⟨rfl, ⟨by omega, by omega, by omega, by omega, by omega, fun x hx => ?_, fun i h => ho i h h⟩⟩)⟩
    obtain ⟨j, hj, rfl⟩ := List.getElem_of_mem hx
    exact he j hj hj
  rintro x (⟨rfl, hv⟩ | ⟨rfl, hv⟩ | ⟨rfl, hv⟩)
  · exact ⟨2, rfl, by simp [hv]⟩
  · exact ⟨10, rfl, by simp [hv]⟩
  exact ⟨0, rfl, by simp [hv]⟩
theorem qnr {l m : List Int} (hl : l.Pairwise (· < ·)) (hm : m.Pairwise (· < ·)) (h : ∀ x, x ∈ l ↔ x ∈ m) : l = m := by
 have nl : l.Nodup := hl.imp fun h => Int.ne_of_lt h
 have nm : m.Nodup := hm.imp fun h => Int.ne_of_lt h
 have hp : l.Perm m := (List.perm_ext_iff_of_nodup nl nm).2 h
 exact hp.eq_of_pairwise (fun a b _ _ h1 h2 => by omega) hl hm
theorem qk0 {l : List Int} {x : Int} : x ∈ sortI l ↔ x ∈ l := (List.mergeSort_perm l _).mem_iff
theorem qos (l : List Int) : (sortI l).Pairwise (· ≤ ·) := by
 have := List.pairwise_mergeSort (le := fun x y : Int => decide (x ≤ y)) (fun a b c h1 h2 => by simp at *; omega) (fun a b => by simp; omega) l
 exact this.imp fun h => by simpa using h
theorem qln (d : Array Int) (j : Nat) : Lib.keeps d j = true ↔ j = 0 ∨ d[j]! ≠ d[j - 1]! := by
 simp [Lib.keeps]
theorem qmt {l : List Int} (h : l.Pairwise (· ≤ ·)) : (qaW l).Pairwise (· < ·) := by
 show (Lib.compactUpTo l.toArray l.length).Pairwise (· < ·)
 unfold Lib.compactUpTo
 rw [List.pairwise_map]
 refine List.Pairwise.imp_of_mem ?_ ((List.pairwise_lt_range (n := l.length)).filter _)
 intro i j hi hj hij
 have hi' := List.mem_range.1 (List.mem_filter.1 hi).1
 have hj' := List.mem_range.1 (List.mem_filter.1 hj).1
 have hk := (qln _ _).1 (List.mem_filter.1 hj).2
 have e1 : l.toArray[i]! = l[i] := by simp [hi']
 have e2 : l.toArray[j]! = l[j] := by simp [hj']
 have e3 : l.toArray[j - 1]! = l[j - 1]'(by omega) := by simp [show j - 1 < l.length by omega]
 rw [e2, e3] at hk
 rw [e1, e2]
 have hp := List.pairwise_iff_getElem.1 h
 have h1 : l[i] ≤ l[j - 1]'(by omega) := by
  by_cases hie : i = j - 1
  ·subst hie; exact Int.le_refl _
  exact hp i (j - 1) hi' (by omega) (by omega)
 have h2 : l[j - 1]'(by omega) ≤ l[j] := hp (j - 1) j (by omega) hj' (by omega)
 omega
theorem qms {l : List Int} {x : Int} (h : x ∈ l) : x ∈ qaW l := by
 show x ∈ Lib.compactUpTo l.toArray l.length
 unfold Lib.compactUpTo
 obtain ⟨i, hi, rfl⟩ := List.getElem_of_mem h
 obtain ⟨j, ⟨hjl, hj⟩, hmin⟩ := qe5 (fun j => ∃ h : j < l.length, l[j] = l[i]) ⟨i, hi, rfl⟩
 refine List.mem_map.2 ⟨j, List.mem_filter.2 ⟨List.mem_range.2 hjl, (qln _ _).2 ?_⟩, by simp [hjl, hj]⟩
 by_cases h0 : j = 0
 ·exact .inl h0
 right
 intro he
 have e2 : l.toArray[j]! = l[j] := by simp [hjl]
 have e3 : l.toArray[j - 1]! = l[j - 1]'(by omega) := by simp [show j - 1 < l.length by omega]
 rw [e2, e3] at he
 have := hmin (j - 1) ⟨by omega, by rw [← he, hj]⟩
 omega
theorem qhV {l : List Int} {x : Int} : x ∈ qaW (sortI l) ↔ x ∈ l := ⟨fun h => qk0.1 (qi4 h), fun h => qms (qk0.2 h)⟩
def qeb (g : Gr) (a : List Int) : Prop := a.Pairwise (· < ·) ∧ ∀ x ∈ a, 0 ≤ x ∧ x < g.2.1
def upto (n : Int) : List Int := (List.range n.toNat).map Int.ofNat
theorem qh6 {n x : Int} : x ∈ upto n ↔ 0 ≤ x ∧ x < n := by
 simp only [upto, List.mem_map, List.mem_range]
 constructor
 ·rintro ⟨i, hi, rfl⟩; simp only [Int.ofNat_eq_natCast]; omega
 rintro ⟨h0, h1⟩; exact ⟨x.toNat, by omega, by simp only [Int.ofNat_eq_natCast]; omega⟩
theorem qj5 (n : Int) : (upto n).Pairwise (· < ·) := by
 rw [upto, List.pairwise_map]
 exact (List.pairwise_lt_range (n := n.toNat)).imp fun h => by simp only [Int.ofNat_eq_natCast]; omega
theorem qpS (n : Int) : (upto n).length = n.toNat := by simp [upto]
def qeN (g : Gr) (a : List Int) (c : Int) : List Int := (upto g.2.1).filter fun t => g.2.2.any fun e => decide (e.2.2 = t ∧ e.2.1 = c ∧ e.1 ∈ a)
theorem qo3 {g : Gr} (hv : VG g) {a : List Int} {c t : Int} : t ∈ qeN g a c ↔ ∃ e ∈ g.2.2, e.2.2 = t ∧ e.2.1 = c ∧ e.1 ∈ a := by
 simp only [qeN, List.mem_filter, List.any_eq_true, decide_eq_true_eq, qh6]
 constructor
 ·rintro ⟨_, h⟩; exact h
 rintro ⟨e, he, h1, h2, h3⟩
 have := hv.ed e he
 exact ⟨by omega, e, he, h1, h2, h3⟩
theorem qh0 (g : Gr) (a : List Int) (c : Int) : qeb g (qeN g a c) :=
 ⟨(qj5 _).filter _, fun x hx => qh6.1 (List.mem_filter.1 hx).1⟩
theorem qir (g : Gr) : qeb g (upto g.2.1) := ⟨qj5 _, fun x hx => qh6.1 hx⟩
theorem qiB {g : Gr} {a : List Int} (hv : VG g) (h : qeb g a) : a.length ≤ 64 := by
 have e : a = (upto g.2.1).filter fun x => decide (x ∈ a) := qnr h.1 ((qj5 _).filter _) fun x => by
  simp only [List.mem_filter, qh6, decide_eq_true_eq]
  exact ⟨fun hx => ⟨h.2 x hx, hx⟩, fun hx => hx.2⟩
 rw [e]
 refine Nat.le_trans (List.length_filter_le _ _) ?_
 rw [qpS]
 have := hv.s1
 omega
theorem qmu {g : Gr} {a : List Int} (h : qeb g a) (hm : a.length ≤ 9223372036854775807) : qck g a = some 0 := by
 unfold qck
 simp only [jp]
 refine lpL (qch (fun i => (i : Int)) a.length (Ou.go ()) (fun i hi => ?_) (by rw [if_neg (qaP _)]) rfl) rfl
 obtain ⟨h0, h1⟩ := h.2 a[i] (List.getElem_mem hi)
 rw [if_pos (qcd hi), ix hi]
 simp only [Option.bind_some]
 rw [if_neg (by omega)]
 have hd : decide (g.2.1 ≤ a[i]) = false := decide_eq_false (by omega)
 simp only [hd, Bool.false_eq_true, if_false]
 by_cases hz : 0 < i
 ·have hlt := List.pairwise_iff_getElem.1 h.1 (i - 1) i (by omega) hi (by omega)
  rw [if_pos (by omega), qpg hi hm hz]
  simp only [Option.bind_some]
  have hd2 : decide (a[i] ≤ a[i - 1]'(by omega)) = false := decide_eq_false (by omega)
  simp only [hd2, Bool.false_eq_true, if_false, nx hm hi]
 rw [if_neg (by omega)]
 simp only [Bool.false_eq_true, if_false, nx hm hi]
def outL (g : Gr) (s c : Int) : List Int := ((qel g.2.2 s).filter fun x => decide (x.2.2.1 = c)).map fun x => x.2.2.2
theorem qjE {es : List Ed} {s : Int} {x : Ed} : (∃ i, (i, x) ∈ qel es s) ↔ x ∈ es ∧ x.1 = s := by
 constructor
 ·rintro ⟨i, h⟩
  obtain ⟨p, hp, he⟩ := List.mem_map.1 h
  obtain ⟨hp1, hp2⟩ := List.mem_filter.1 hp
  cases he
  exact ⟨List.fst_mem_of_mem_zipIdx hp1, of_decide_eq_true hp2⟩
 rintro ⟨hm, hs⟩
 obtain ⟨k, hk, rfl⟩ := List.getElem_of_mem hm
 exact ⟨_, List.mem_map.2 ⟨(es[k], k), List.mem_filter.2 ⟨by rw [List.mem_zipIdx_iff_getElem?]; exact List.getElem?_eq_getElem hk, decide_eq_true hs⟩, rfl⟩⟩
theorem qqm {g : Gr} {s c t : Int} : t ∈ outL g s c ↔ ∃ e ∈ g.2.2, e.2.2 = t ∧ e.2.1 = c ∧ e.1 = s := by
 simp only [outL, List.mem_map, List.mem_filter, decide_eq_true_eq]
 constructor
 ·rintro ⟨⟨i, x⟩, ⟨hm, hc⟩, rfl⟩
  obtain ⟨h1, h2⟩ := qjE.1 ⟨i, hm⟩
  exact ⟨x, h1, rfl, hc, h2⟩
 rintro ⟨x, hx, rfl, hc, hs⟩
 obtain ⟨i, hi⟩ := qjE.2 ⟨hx, hs⟩
 exact ⟨(i, x), ⟨hi, hc⟩, rfl⟩
theorem qqe (g : Gr) (s c : Int) : (outL g s c).length ≤ g.2.2.length := by
 simp only [outL, qel, List.length_map]
 refine Nat.le_trans (List.length_filter_le _ _) ?_
 rw [List.length_map]
 refine Nat.le_trans (List.length_filter_le _ _) ?_
 simp
theorem qnf (c : Int) : ∀ (L : List (Int × Ed)) (acc : List Int), L.foldl (fun (a : List Int) (x : Int × Ed) => if x.2.2.1 = c then a ++ [x.2.2.2] else a) acc = acc ++ (L.filter fun x => decide (x.2.2.1 = c)).map fun x => x.2.2.2
 | [], acc => by simp
 | x :: L, acc => by
  rw [List.foldl_cons, qnf c L]
  by_cases h : x.2.2.1 = c
  ·rw [if_pos h, List.filter_cons_of_pos (by simpa using h)]; simp
  rw [if_neg h, List.filter_cons_of_neg (by simpa using h)]
theorem qjK {S α X : Type} {body : S → α → Option (Stp S X)} (f : S → α → S) (P : Nat → S → Prop) : ∀ (L : List α) (s : S) (k : Nat), (∀ i s x, i < L.length → x ∈ L → P (k + i) s → body s x = some (.next (f s x)) ∧ P (k + i + 1) (f s x)) → P k s → forL body L s = some (.go (L.foldl f s))
 | [], _, _, _, _ => rfl
 | x :: L, s, k, h, hs => by
  obtain ⟨h1, h2⟩ := h 0 s x (by simp) (List.mem_cons_self ..) hs
  simp only [forL, h1]
  exact qjK f P L _ (k + 1) (fun i s y hi hy hP => by
   have e : k + 1 + i = k + (i + 1) := by omega
   rw [e] at hP ⊢
   exact h (i + 1) s y (by simp; omega) (List.mem_cons_of_mem _ hy) hP) h2
theorem qdD {k n : Nat} (h : n * k ≤ 140737488355328) (h2 : n ≤ 1048576) : fits k n := ⟨h, by simp only [maxLen]; omega⟩
theorem qr8 {g : Gr} (hv : VG g) {a : List Int} (ha : qeb g a) {c : Int} (h0 : 0 ≤ c) (h1 : c < g.1) : qdR g a c = some (qeN g a c, 0) := by
 obtain ⟨e, he, hz⟩ := qgU g
 have he0 := hz.2 hv
 subst he0
 have hl := qiB hv ha
 have hel := hv.el
 unfold qdR
 rw [qep, he, Option.bind_some, qmu ha (by omega)]
 simp only [ne_eq, not_true_eq_false, if_false, Option.bind_some, jp]
 rw [if_neg (by omega)]
 have hd : decide (g.1 ≤ c) = false := decide_eq_false (by omega)
 simp only [hd, Bool.false_eq_true, if_false]
 have hy : ∀ x, qcs g x = some (qel g.2.2 x) := fun x => by unfold qcs; rw [if_pos (by omega)]
 have hlen : ∀ i, i ≤ a.length → ((a.take i).flatMap fun s => outL g s c).length ≤ i * 1024 := by
  intro i
  induction i with
  | zero => intro _; simp
  | succ i ih =>
   intro hi
   have := ih (by omega)
   rw [List.take_add_one, List.getElem?_eq_getElem (by omega)]
   simp only [Option.toList_some, List.flatMap_append, List.flatMap_cons, List.flatMap_nil, List.append_nil, List.length_append]
   have h2 := qqe g a[i] c
   omega
 refine qfN (qch (fun i => ((i : Int), (a.take i).flatMap fun s => outL g s c)) a.length (a.flatMap fun s => outL g s c) (fun i hi => ?_) ?_ (by simp)) ?_
 ·dsimp only
  rw [if_pos (qcd hi), ix hi]
  simp only [Option.bind_some, hy]
  have hb := hlen i (by omega)
  have hll : (qel g.2.2 a[i]).length ≤ 1024 := by
   simp only [qel, List.length_map]
   refine Nat.le_trans (List.length_filter_le _ _) ?_
   simp; omega
  rw [qjK (fun (acc : List Int) (x : Int × Ed) => if x.2.2.1 = c then acc ++ [x.2.2.2] else acc) (fun k s => s.length ≤ i * 1024 + k) _ _ 0 (fun k s x hk hx hP => ?_) (Nat.le_trans hb (Nat.le_add_right _ _))]
  ·simp only [lpO, nx (by omega : a.length ≤ _) hi, qnf, Option.some.injEq, Stp.next.injEq, Prod.mk.injEq, true_and]
   rw [List.take_add_one, List.getElem?_eq_getElem hi]
   simp only [Option.toList_some, List.flatMap_append, List.flatMap_cons, List.flatMap_nil, List.append_nil]
   rfl
  by_cases hc : x.2.2.1 = c
  ·rw [if_pos hc, if_pos hc, if_pos (qdD (by simp; omega) (by simp; omega))]
   exact ⟨rfl, by simp; omega⟩
  rw [if_neg hc, if_neg hc]
  exact ⟨rfl, by omega⟩
 ·dsimp only
  rw [if_neg (qaP _), List.take_length]
 have hb := hlen a.length (Nat.le_refl _)
 rw [List.take_length] at hb
 rw [if_pos (by omega)]
 congr 2
 refine qnr (qmt (qos _)) (qh0 g a c).1 fun x => ?_
 rw [qhV, qo3 hv]
 simp only [List.mem_flatMap, qqm]
 constructor
 ·rintro ⟨s, hs, e, he, h1, h2, rfl⟩; exact ⟨e, he, h1, h2, hs⟩
 rintro ⟨e, he, h1, h2, hs⟩; exact ⟨_, hs, e, he, h1, h2, rfl⟩
theorem qsJ {l : List Int} (hm : l.length ≤ 9223372036854775807) (n : Int) : qdy l n = some (decide (n ∈ l)) := by
 unfold qdy
 refine lpL (qgz (fun i => (i : Int)) l.length (fun i => decide (l.getD i 0 = n)) (Ou.ret true) (Ou.go ()) (fun i hi => ?_) (by rw [if_neg (qaP _)]) rfl) ?_
 ·have e1 : l.getD i 0 = l[i] := by simp [List.getD, hi]
  rw [if_pos (qcd hi), ix hi]
  simp only [Option.bind_some, nx hm hi, e1, decide_eq_true_eq]
 by_cases h : n ∈ l
 ·obtain ⟨i, hi, he⟩ := List.getElem_of_mem h
  rw [if_pos]
  ·simp [lpO, h]
  exact List.any_eq_true.2 ⟨i, List.mem_range.2 hi, by simp [List.getD, hi, he]⟩
 rw [if_neg]
 ·simp [lpO, h]
 intro hx
 obtain ⟨i, hi, hp⟩ := List.any_eq_true.1 hx
 have hi := List.mem_range.1 hi
 have e1 : l.getD i 0 = l[i] := by simp [List.getD, hi]
 rw [e1] at hp
 exact h (of_decide_eq_true hp ▸ List.getElem_mem hi)
theorem qjA {g : Gr} (hv : VG g) {a : List Int} (hl : a.length ≤ 9223372036854775807) {c : Int} : qc4 g a c = some (qeN g a c) := by
  have hel := hv.el
  have hs1 := hv.s1
  have hs0 := hv.s0
  obtain ⟨m, hm⟩ := Int.eq_ofNat_of_zero_le hs0
  have hfl : ∀ i, ((((List.range i).map Int.ofNat).filter fun t => g.2.2.any fun e => decide (e.2.2 = t ∧ e.2.1 = c ∧ e.1 ∈ a)) : List Int).length ≤ i := fun i => Nat.le_trans (List.length_filter_le _ _) (by simp)
  unfold qc4
  refine qfN (qch (fun i => ((i : Int), ((List.range i).map Int.ofNat).filter fun t => g.2.2.any fun e => decide (e.2.2 = t ∧ e.2.1 = c ∧ e.1 ∈ a))) m (qeN g a c) (fun i hi => ?_) ?_ (by simp)) rfl
  · dsimp only
    rw [if_pos (by omega)]
    simp only [jp]
    have hin : loopW (S := Bool × Int) (X := Bool) (fun a9 =>
              if a9.2 < ((g.2.2).length : Int) then
                (idx g.2.2 a9.2).bind fun x19 =>
                  if x19.2.2 = (i : Int) then
                    (idx g.2.2 a9.2).bind fun x21 =>
                      if x21.2.1 = c then
                        (idx g.2.2 a9.2).bind fun x23 => (qdy a x23.1).bind fun x25 => if x25 = true then some (Stp.next (true, IntKind.wrap .i64 (a9.2 + 1))) else some (Stp.next (a9.1, IntKind.wrap .i64 (a9.2 + 1)))
                      else if false = true then some (Stp.next (true, IntKind.wrap .i64 (a9.2 + 1))) else some (Stp.next (a9.1, IntKind.wrap .i64 (a9.2 + 1)))
                  else if false = true then some (Stp.next (true, IntKind.wrap .i64 (a9.2 + 1))) else some (Stp.next (a9.1, IntKind.wrap .i64 (a9.2 + 1)))
              else
                some (Stp.exit a9.1)) (false, 0) = some (g.2.2.any fun e => decide (e.2.2 = (i : Int) ∧ e.2.1 = c ∧ e.1 ∈ a)) := by
      refine qch (fun k => ((g.2.2.take k).any fun e => decide (e.2.2 = (i : Int) ∧ e.2.1 = c ∧ e.1 ∈ a), (k : Int))) g.2.2.length _ (fun k hk => ?_) ?_ (by simp)
      · dsimp only
        rw [if_pos (qcd hk), ix hk]
        simp only [Option.bind_some, qsJ hl, nx (by omega : g.2.2.length ≤ _) hk, Bool.false_eq_true, if_false, decide_eq_true_eq]
        have e : (g.2.2.take (k + 1)).any (fun e => decide (e.2.2 = (i : Int) ∧ e.2.1 = c ∧ e.1 ∈ a)) = ((g.2.2.take k).any (fun e => decide (e.2.2 = (i : Int) ∧ e.2.1 = c ∧ e.1 ∈ a)) || decide (g.2.2[k].2.2 = (i : Int) ∧ g.2.2[k].2.1 = c ∧ g.2.2[k].1 ∈ a)) := by
          rw [List.take_add_one, List.getElem?_eq_getElem hk, List.any_append]
          congr 1
          simp
        rw [e]
        by_cases h1 : g.2.2[k].2.2 = (i : Int)
        · by_cases h2 : g.2.2[k].2.1 = c
          · by_cases h3 : g.2.2[k].1 ∈ a
            · simp [h1, h2, h3]
            simp [h1, h2, h3]
          simp [h1, h2]
        simp [h1]
      dsimp only
      rw [if_neg (qaP _), List.take_length]
    rw [hin]
    simp only [Option.bind_some]
    have er : (List.range (i + 1)).map Int.ofNat = (List.range i).map Int.ofNat ++ [(i : Int)] := by rw [List.range_succ, List.map_append]; rfl
    rw [er, List.filter_append]
    by_cases hb : (g.2.2.any fun e => decide (e.2.2 = (i : Int) ∧ e.2.1 = c ∧ e.1 ∈ a)) = true
    · have := hfl i
      rw [if_pos hb, if_pos (qdD (by simp only [List.length_cons, List.length_nil]; omega) (by simp only [List.length_cons, List.length_nil]; omega)), nx (by omega : m ≤ _) hi, List.filter_cons_of_pos (by exact hb)]
      rfl
    rw [if_neg hb, nx (by omega : m ≤ _) hi, List.filter_cons_of_neg (by exact hb)]
    simp
  dsimp only
  rw [if_neg (by omega)]
  simp only [qeN, upto, hm, Int.toNat_natCast]
theorem qrc {g : Gr} (hv : VG g) : qdz g = some (upto g.2.1) := by
 have hs1 := hv.s1
 obtain ⟨m, hm⟩ := Int.eq_ofNat_of_zero_le hv.s0
 unfold qdz
 refine qfN (qch (fun i => ((i : Int), (List.range i).map Int.ofNat)) m (upto g.2.1) (fun i hi => ?_) ?_ (by simp)) rfl
 ·dsimp only
  rw [if_pos (by omega), if_pos (qdD (by simp; omega) (by simp; omega)), nx (by omega : m ≤ _) hi, List.range_succ, List.map_append]
  rfl
 dsimp only
 rw [if_neg (by omega)]
 simp only [upto, hm, Int.toNat_natCast]
theorem qkZ {g : Gr} (hv : VG g) : qbA g = some (upto g.2.1) := by
 have hs1 := hv.s1
 obtain ⟨m, hm⟩ := Int.eq_ofNat_of_zero_le hv.s0
 unfold qbA
 rw [if_pos (by omega)]
 simp only [hm, Int.toNat_natCast, List.length_replicate]
 refine qfN (qch (fun i => ((i : Int), (List.range i).map Int.ofNat ++ List.replicate (m - i) (0 : Int))) m (upto m) (fun i hi => ?_) ?_ (by simp)) rfl
 ·dsimp only
  have hlen : ((List.range i).map Int.ofNat ++ List.replicate (m - i) (0 : Int)).length = m := by simp; omega
  rw [if_pos (qcd hi), ix (by omega)]
  simp only [Option.bind_some, nx (by omega : m ≤ _) hi, Int.toNat_natCast]
  congr 3
  rw [List.set_append_right _ _ (by simp), List.range_succ, List.map_append]
  have e : m - i = (m - (i + 1)) + 1 := by omega
  simp only [List.length_map, List.length_range, Nat.sub_self, e, List.replicate_succ, List.set_cons_zero]
  simp
 dsimp only
 rw [if_neg (qaP _)]
 simp [upto]
theorem qek : letters.length = 16 := rfl
theorem qfT {i : Nat} (h : i < letters.length) : Lib.indexByte letters letters[i] = (i : Int) := by
 have : ∀ j : Fin 16, Lib.indexByte letters (letters[j.1]'j.2) = (j.1 : Int) := by decide
 exact this ⟨i, h⟩
theorem qi7 (c : UInt8) : ((c.toNat : Int).toNat.toUInt8) = c := by simp
def lets (g : Gr) : List UInt8 := letters.take g.1.toNat
section
variable {g : Gr}
theorem qqo (hv : VG g) (h16 : g.1 ≤ 16) : (lets g).length = g.1.toNat := by
 have := hv.l1
 rw [lets, List.length_take, qek]; omega
theorem qkv (hv : VG g) {a : List Int} (ha : qeb g a) {i : Nat} (h : i < letters.length) (hi : (i : Int) < g.1) : qbb g a ((letters[i]).toNat : Int) = some (qeN g a i) := by
 unfold qbb qaT
 simp only [qi7, Option.bind_some]
 have e : Lib.indexByte [48, 49, 50, 51, 52, 53, 54, 55, 56, 57, 97, 98, 99, 100, 101, 102] letters[i] = (i : Int) := qfT h
 rw [e, qr8 hv ha (by omega) hi]
 rfl
theorem qon (hv : VG g) {a : List Int} (ha : qeb g a) {i : Nat} (h : i < letters.length) (hi : (i : Int) < g.1) : stpM g a letters[i] = qeN g a i := by
 unfold stpM; rw [qkv hv ha h hi]; rfl
theorem qks {c : UInt8} (h : c ∈ letters.take g.1.toNat) : ∃ (i : Nat) (hi : i < letters.length), (i : Int) < g.1 ∧ letters[i] = c := by
 obtain ⟨i, hi, rfl⟩ := List.mem_take_iff_getElem.1 h
 have h1 : i < g.1.toNat := by omega
 exact ⟨i, by omega, by omega, rfl⟩
theorem qom (hv : VG g) {a : List Int} {c : UInt8} (ha : qeb g a) (hc : c ∈ letters.take g.1.toNat) : qeb g (stpM g a c) := by
 obtain ⟨i, hi, hg, rfl⟩ := qks hc
 rw [qon hv ha hi hg]
 exact qh0 g a i
theorem qrj (hv : VG g) {set : List Int} (hs : qeb g set) : qmz g set := ⟨qeb g, hs, fun a c ha hc => by
 obtain ⟨i, hi, hg, rfl⟩ := qks hc
 exact ⟨_, qkv hv ha hi hg, qh0 g a i⟩⟩
def LV (g : Gr) (set : List Int) (n : Nat) : List WS := lvl (stpM g) (letters.take g.1.toNat) set n
def OKL (g : Gr) (set : List Int) (n : Nat) : Bool := qnM (stpM g) (letters.take g.1.toNat) set n
theorem qrH (hv : VG g) (h16 : g.1 ≤ 16) {set : List Int} (hs : qeb g set) {n : Nat} : qbH g set (n : Int) = some (if OKL g set n = true then (LV g set n, true) else ([], false)) := by
 unfold qbH
 have := hv.l1
 rw [if_pos ⟨by omega, h16, by omega, qrj hv hs⟩]
 rfl
theorem qs3 (hv : VG g) {set : List Int} (hs : qeb g set) {n : Nat} {x : WS} (h : x ∈ LV g set n) : qeb g x.2 := qku hs (fun a c ha hc => qom hv ha hc) n x h
theorem qs5 {set : List Int} {n : Nat} {x : WS} (h : x ∈ LV g set n) : x.1.length = n := qiS n x h
theorem qjc {set : List Int} {n : Nat} : OKL g set n = true ↔ ∀ j, 1 ≤ j → j ≤ n → (LV g set j).length ≤ 4096 := qfB
theorem qnj (stp : List Int → UInt8 → List Int) (cs : List UInt8) (x : WS) : (ext1 stp cs x).length ≤ cs.length := List.length_filterMap_le _ _
theorem qng (stp : List Int → UInt8 → List Int) (cs : List UInt8) : ∀ l : List WS, (l.flatMap (ext1 stp cs)).length ≤ l.length * cs.length
 | [] => by simp
 | x :: l => by
  have h1 := qng stp cs l
  have h2 := qnj stp cs x
  rw [List.flatMap_cons, List.length_append, List.length_cons, Nat.succ_mul]
  omega
theorem qnL {k : Nat} (h : k < letters.length) : (letters.take (k + 1)).drop k = [letters[k]] := by
 rw [List.take_add_one, List.getElem?_eq_getElem h, List.drop_left' (by rw [List.length_take]; omega)]
 rfl
theorem qrR (hv : VG g) (h16 : g.1 ≤ 16) {l : List WS} (hl : l.length ≤ 4096) (hs : ∀ x ∈ l, qeb g x.2) (hw : ∀ x ∈ l, x.1.length ≤ 1000000) : qbP g l = some (l.flatMap (ext1 (stpM g) (letters.take g.1.toNat))) := by
 have h1 := hv.l1
 obtain ⟨L, hL⟩ := Int.eq_ofNat_of_zero_le (show 0 ≤ g.1 by omega)
 have hL16 : L ≤ letters.length := by rw [qek]; omega
 have htn : g.1.toNat = L := by omega
 unfold qbP
 rw [htn]
 have hb : ∀ i, ((l.take i).flatMap (ext1 (stpM g) (letters.take L))).length ≤ 65536 := fun i => by
  have h2 := qng (stpM g) (letters.take L) (l.take i)
  have h3 : (l.take i).length ≤ 4096 := by rw [List.length_take]; omega
  have h4 : (letters.take L).length ≤ 16 := by rw [List.length_take, qek]; omega
  exact Nat.le_trans h2 (Nat.le_trans (Nat.mul_le_mul h3 h4) (by decide))
 refine qfN (qch (fun i => ((i : Int), (l.take i).flatMap (ext1 (stpM g) (letters.take L)))) l.length (l.flatMap (ext1 (stpM g) (letters.take L))) (fun i hi => ?_) ?_ (by simp)) rfl
 ·dsimp only
  rw [if_pos (qcd hi)]
  have hsx := hs _ (List.getElem_mem hi)
  have hlx := qiB hv hsx
  refine qfN (qch (fun k => ((k : Int), (l.take i).flatMap (ext1 (stpM g) (letters.take L)) ++ ext1 (stpM g) (letters.take k) l[i])) L ((l.take i).flatMap (ext1 (stpM g) (letters.take L)) ++ ext1 (stpM g) (letters.take L) l[i]) (fun k hk => ?_) ?_ (by simp [ext1])) ?_
  ·dsimp only
   have hk16 : k < letters.length := by omega
   have hk16' : k < 16 := hk16
   rw [if_pos (by omega), ix hi]
   simp only [jp, Option.bind_some, qjA hv (show (l[i]).2.length ≤ 9223372036854775807 by omega), nx (by omega : L ≤ _) hk]
   have hst := qon hv hsx hk16 (by omega : (k : Int) < g.1)
   have htk := qlB (stp := stpM g) (cs := letters) l[i] hk16
   rw [hst] at htk
   by_cases he : qeN g (l[i]).2 (k : Int) = []
   ·rw [if_neg (by rw [he]; simp)]
    rw [htk, if_pos he, List.append_nil]
   have hpos : 0 < ((qeN g (l[i]).2 (k : Int)).length : Int) := by
    have := List.length_pos_iff.2 he
    omega
   rw [if_pos hpos]
   have e16 : ([48, 49, 50, 51, 52, 53, 54, 55, 56, 57, 97, 98, 99, 100, 101, 102] : List UInt8) = letters := rfl
   rw [e16, if_pos (by rw [qek]; omega)]
   simp only [Int.toNat_natCast, qnL hk16]
   have hwl := hw _ (List.getElem_mem hi)
   have he1 := qnj (stpM g) (letters.take k) l[i]
   have he2 : (letters.take k).length ≤ 16 := by rw [List.length_take, qek]; omega
   have hbi := hb i
   rw [if_pos (by simp only [List.length_cons, List.length_nil, maxLen]; omega), if_pos (qdD (by simp only [List.length_append, List.length_cons, List.length_nil]; omega) (by simp only [List.length_append, List.length_cons, List.length_nil]; omega))]
   rw [htk, if_neg he, List.append_assoc]
  ·dsimp only
   rw [if_neg (by omega)]
  simp only [nx (by omega : l.length ≤ _) hi]
  rw [List.take_add_one, List.getElem?_eq_getElem hi]
  simp only [Option.toList_some, List.flatMap_append, List.flatMap_cons, List.flatMap_nil, List.append_nil]
 dsimp only
 rw [if_neg (qaP _), List.take_length]
theorem qpO (g : Gr) (set : List Int) : (LV g set 0).length ≤ 1 := by
 unfold LV lvl; split <;> simp
theorem ql6 (hv : VG g) (h16 : g.1 ≤ 16) {set : List Int} (hs : qeb g set) {n : Nat} (hn : n ≤ 4096) : qdj g set n = some (if OKL g set n = true then (LV g set n, 0) else ([], 4)) := by
 unfold qdj
 simp only [jp]
 have key : ∀ (l0 : List WS), l0 = LV g set 0 → lpO (loopW (S := List qaC × Int) (X := Ou (List qaC) (List qaC × Int)) (fun a5 =>
   if a5.2 < (n : Int) then
    if decide (0 < ((a5.1).length : Int)) = true then
     (qbP g a5.1).bind fun x12 => if 4096 < ((x12).length : Int) then some (Stp.exit (Ou.ret ([], 4))) else some (Stp.next (x12, IntKind.wrap .i64 (a5.2 + 1)))
    else some (Stp.exit (Ou.go a5.1))
   else if false = true then
     (qbP g a5.1).bind fun x12 => if 4096 < ((x12).length : Int) then some (Stp.exit (Ou.ret ([], 4))) else some (Stp.next (x12, IntKind.wrap .i64 (a5.2 + 1)))
    else some (Stp.exit (Ou.go a5.1))) (l0, 0)) (fun a15 => some (a15, 0)) some = some (if OKL g set n = true then (LV g set n, 0) else ([], 4)) := by
  intro l0 hl0
  have hx : ∃ x, loopW (S := List qaC × Int) (X := Ou (List qaC) (List qaC × Int)) (fun a5 =>
   if a5.2 < (n : Int) then
    if decide (0 < ((a5.1).length : Int)) = true then
     (qbP g a5.1).bind fun x12 => if 4096 < ((x12).length : Int) then some (Stp.exit (Ou.ret ([], 4))) else some (Stp.next (x12, IntKind.wrap .i64 (a5.2 + 1)))
    else some (Stp.exit (Ou.go a5.1))
   else if false = true then
     (qbP g a5.1).bind fun x12 => if 4096 < ((x12).length : Int) then some (Stp.exit (Ou.ret ([], 4))) else some (Stp.next (x12, IntKind.wrap .i64 (a5.2 + 1)))
    else some (Stp.exit (Ou.go a5.1))) (l0, 0) = some x ∧ ((x = .go (LV g set n) ∧ OKL g set n = true) ∨ (x = .ret ([], 4) ∧ ¬ OKL g set n = true)) := by
   refine qme n (fun i s => s = (LV g set i, (i : Int)) ∧ ∀ j, 1 ≤ j → j ≤ i → (LV g set j).length ≤ 4096) ?_ ?_ 0 _ (Nat.zero_le _) ⟨by rw [hl0]; rfl, fun j h1 h2 => by omega⟩
   ·rintro i s hi ⟨rfl, hj⟩
    dsimp only
    rw [if_pos (qcd hi)]
    by_cases h0 : LV g set i = []
    ·rw [if_neg (by rw [h0]; simp)]
     have hnil : ∀ j, i ≤ j → LV g set j = [] := fun j h => qmb h0 h
     refine .inr ⟨_, rfl, .inl ⟨by rw [h0, hnil n (by omega)], qjc.2 fun j h1 h2 => ?_⟩⟩
     by_cases h : j ≤ i
     ·exact hj j h1 h
     rw [hnil j (by omega)]; simp
    have hpos : 0 < (LV g set i).length := List.length_pos_iff.2 h0
    rw [if_pos (decide_eq_true (by omega))]
    have hl : (LV g set i).length ≤ 4096 := by
     by_cases hi0 : i = 0
     ·subst hi0; have := qpO g set; omega
     exact hj i (by omega) (Nat.le_refl _)
    rw [qrR hv h16 hl (fun x hx => qs3 hv hs hx) (fun x hx => by rw [qs5 hx]; omega)]
    simp only [Option.bind_some]
    have e : (LV g set i).flatMap (ext1 (stpM g) (letters.take g.1.toNat)) = LV g set (i + 1) := rfl
    rw [e]
    by_cases h4 : 4096 < (LV g set (i + 1)).length
    ·rw [if_pos (by omega)]
     refine .inr ⟨_, rfl, .inr ⟨rfl, fun hok => ?_⟩⟩
     have := qjc.1 hok (i + 1) (by omega) (by omega)
     omega
    rw [if_neg (by omega)]
    refine .inl ⟨_, rfl, by rw [nx (by omega : n ≤ _) hi], fun j h1 h2 => ?_⟩
    by_cases h : j ≤ i
    ·exact hj j h1 h
    have : j = i + 1 := by omega
    subst this; omega
   rintro s ⟨rfl, hj⟩
   dsimp only
   rw [if_neg (qaP _), if_neg (by simp)]
   exact ⟨_, rfl, .inl ⟨rfl, qjc.2 hj⟩⟩
  obtain ⟨x, hx, ⟨rfl, hok⟩ | ⟨rfl, hok⟩⟩ := hx
  ·rw [hx, if_pos hok]; rfl
  rw [hx, if_neg hok]; rfl
 by_cases h0 : set = []
 ·rw [if_neg (by rw [h0]; simp)]
  exact key [] (by unfold LV lvl; rw [if_pos h0])
 have hpos : 0 < set.length := List.length_pos_iff.2 h0
 rw [if_pos (by omega), if_pos (qdD (by simp) (by simp))]
 exact key _ (by unfold LV lvl; rw [if_neg h0]; rfl)
theorem qpT {l : List WS} (hl : l.length ≤ 1000000) : qdk l = some (l.map Prod.fst) := by
 unfold qdk
 refine qfN (qch (fun i => ((i : Int), (l.take i).map Prod.fst)) l.length (l.map Prod.fst) (fun i hi => ?_) ?_ (by simp)) rfl
 ·dsimp only
  rw [if_pos (qcd hi), ix hi]
  simp only [Option.bind_some]
  rw [if_pos (qdD (by simp; omega) (by simp; omega)), nx (by omega : l.length ≤ _) hi, List.take_add_one, List.getElem?_eq_getElem hi, List.map_append]
  rfl
 dsimp only
 rw [if_neg (qaP _), List.take_length]
theorem qmD (a : UInt8) : ¬ a < a := UInt8.lt_irrefl a
theorem qpH {u v : List UInt8} : ∀ (w : List UInt8), u < v → w ++ u < w ++ v
 | [], h => h
 | a :: w, h => List.cons_lt_cons_iff.2 (.inr ⟨rfl, qpH w h⟩)
theorem qo6 : ∀ {u v : List UInt8} (x y : List UInt8), u.length = v.length → u < v → u ++ x < v ++ y
 | [], [], _, _, _, h => by cases h
 | [], _ :: _, _, _, hl, _ => by cases hl
 | _ :: _, [], _, _, hl, _ => by cases hl
 | a :: u, b :: v, x, y, hl, h => by
  rcases List.cons_lt_cons_iff.1 h with h1 | ⟨h0, h1⟩
  ·exact List.cons_lt_cons_iff.2 (.inl h1)
  exact List.cons_lt_cons_iff.2 (.inr ⟨h0, qo6 x y (by simpa using hl) h1⟩)
theorem qo5 : ∀ (u : List UInt8), ¬ u < u
 | [], h => by cases h
 | a :: u, h => by
  rcases List.cons_lt_cons_iff.1 h with h | ⟨_, h⟩
  ·exact qmD a h
  exact qo5 u h
theorem qo4 {stp : List Int → UInt8 → List Int} {cs : List UInt8} {set : List Int} (hcs : cs.Pairwise (· < ·)) : ∀ i, (lvl stp cs set i).Pairwise (fun x y => x.1 < y.1)
 | 0 => by simp only [lvl]; split <;> simp
 | i + 1 => by
  simp only [lvl]
  rw [List.pairwise_flatMap]
  refine ⟨fun x hx => ?_, (qo4 hcs i).imp_of_mem fun {x y} hx hy hxy a ha b hb => ?_⟩
  ·unfold ext1
   rw [List.pairwise_filterMap]
   refine hcs.imp fun {c d} hcd y hy z hz => ?_
   split at hy
   ·cases hy
   split at hz
   ·cases hz
   cases hy; cases hz
   exact qpH _ (List.cons_lt_cons_iff.2 (.inl hcd))
  obtain ⟨c, _, _, rfl⟩ := qdH.1 ha
  obtain ⟨d, _, _, rfl⟩ := qdH.1 hb
  exact qo6 _ _ (by rw [qiS i x hx, qiS i y hy]) hxy
theorem letters_asc : letters.Pairwise (· < ·) := by decide
theorem qra (g : Gr) (set : List Int) (n : Nat) : ((LV g set n).map Prod.fst).Pairwise (· < ·) := by
 rw [List.pairwise_map]
 exact qo4 (letters_asc.sublist (List.take_sublist _ _)) n
theorem qp2 {l : List (List UInt8)} (h : l.Pairwise (· < ·)) : sortS l = l := qj9 (List.Perm.refl l) (h.imp fun h => decide_eq_true (List.le_of_lt h))
theorem qmf (g : Gr) (n : Int) : qbS g n = qa2 g n := by
 unfold qbS qa2 qa1 qbQ
 rw [qep]
theorem qi6 (g : Gr) (n : Int) : ∃ e, qa2 g n = some e ∧ (e = 0 ↔ VG g ∧ g.1 ≤ 16 ∧ 0 ≤ n ∧ n ≤ 4096) := by
 obtain ⟨e, he, hz⟩ := qgU g
 unfold qa2 qbQ
 rw [he]
 simp only [Option.bind_some, jp]
 by_cases h0 : e = 0
 ·have hv := hz.1 h0
  rw [if_neg (by omega : ¬ e ≠ 0)]
  by_cases h1 : 16 < g.1
  ·exact ⟨12, by simp [h1], by simp; omega⟩
  simp only [if_neg h1, Option.bind_some, ne_eq, not_true_eq_false, if_false]
  by_cases h2 : n < 0
  ·exact ⟨2, by simp [h2], by simp; omega⟩
  by_cases h3 : 4096 < n
  ·exact ⟨2, by simp [h2, h3], by simp; omega⟩
  exact ⟨0, by simp [h2, h3], by simp [hv]; omega⟩
 have hv : ¬ VG g := fun v => h0 (hz.2 v)
 rw [if_pos h0]
 exact ⟨1, by simp, by simp [hv]⟩
def qn9 (g : Gr) (n : Int) : List (List UInt8) := (LV g (upto g.2.1) n.toNat).map Prod.fst
theorem qjV (g : Gr) (n : Int) : ∃ r, qbe g n = some r ∧ qcG g n = some r ∧ (r.2 = 0 → (VG g ∧ g.1 ≤ 16 ∧ 0 ≤ n ∧ n ≤ 4096 ∧ OKL g (upto g.2.1) n.toNat = true) ∧ r.1 = qn9 g n) ∧
  (VG g → g.1 ≤ 16 → 0 ≤ n → n ≤ 4096 → OKL g (upto g.2.1) n.toNat = true → r.2 = 0) := by
 obtain ⟨e, he, hz⟩ := qi6 g n
 unfold qbe qcG
 rw [qmf, he]
 simp only [Option.bind_some]
 by_cases h0 : e = 0
 ·obtain ⟨hv, h16, hn0, hn1⟩ := hz.1 h0
  have hs := qir g
  obtain ⟨m, hm⟩ := Int.eq_ofNat_of_zero_le hn0
  have hn : ¬ e ≠ 0 := by omega
  rw [if_neg hn, if_neg hn, qkZ hv, qrc hv]
  subst hm
  simp only [Option.bind_some, qrH hv h16 hs, ql6 hv h16 hs (by omega : m ≤ 4096), Int.toNat_natCast]
  by_cases hok : OKL g (upto g.2.1) m = true
  ·simp only [if_pos hok, if_true, ne_eq, not_true_eq_false, if_false]
   have hl : (LV g (upto g.2.1) m).length ≤ 4096 := by
    by_cases hm0 : m = 0
    ·subst hm0; have := qpO g (upto g.2.1); omega
    exact qjc.1 hok m (by omega) (Nat.le_refl _)
   rw [qpT (by omega), qp2 (qra g _ m)]
   exact ⟨_, rfl, rfl, fun _ => ⟨⟨hv, h16, hn0, hn1, hok⟩, by simp [qn9]⟩, fun _ _ _ _ _ => rfl⟩
  simp only [if_neg hok, if_neg (show ¬ false = true by simp)]
  exact ⟨([], 4), rfl, (by simp), (fun h => by cases h), fun _ _ _ _ h => absurd h hok⟩
 rw [if_pos h0, if_pos h0]
 exact ⟨_, rfl, rfl, fun h => absurd h h0, fun h1 h2 h3 h4 _ => absurd (hz.2 ⟨h1, h2, h3, h4⟩) h0⟩
end
end Go.AW
end
