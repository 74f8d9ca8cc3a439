/- MergingWrites: Encode and Charge return the results of the reference implementation; for every input the law returns true. -/
import Derived.Test.YtlddcjolelmpmaaGreatWr6
import Derived.ChangeMaps5
import Derived.Test.YtlddcjolelmpmaaGreatRows
namespace Go.AW
open Go Go.ChangeShapes Go.WideShapes Go.ChangeAt Go.RowKit
section
variable {H : Type} {enc : TypeId × Value → H} {P : Program} {W : World} {base : Nat}
theorem open2 {t : TypeId} {f0 f1 : Field} {fuel : Nat} {cs : List Value} {x : DataW H × List MemPlace} (ht : P.underlying t = some (.struct #[f0, f1])) (o0 : f0.offset = 0) (o1 : f1.offset = 1) (c : P.cellsOf t = 2)
  (c0 : P.cellsOf f0.type = 1) (c1 : P.cellsOf f1.type = 1) (h : DataW.trod enc P W 0 (fun _ => true) true fuel t cs = some x) :
  ∃ v0 v1 y0 y1 n, cs = [v0, v1] ∧ DataW.trod enc P W 0 (fun _ => true) true n f0.type [v0] = some y0 ∧ DataW.trod enc P W 0 (fun _ => true) true n f1.type [v1] = some y1 := by
 obtain ⟨xs, n, _, rfl, hl, hlen, hf⟩ := DataW.trod_struct ht h
 rw [c] at hl
 match cs, hl with
 | [v0, v1], _ =>
  match xs, hlen with
  | [y0, y1], _ =>
   refine ⟨v0, v1, y0, y1, n, rfl, ?_, ?_⟩
   ·have := hf 0 f0 rfl; rw [o0, c0] at this; exact this
   ·have := hf 1 f1 rfl; rw [o1, c1] at this; exact this
theorem open_joins {t ts te : TypeId} {f0 f1 : Field} {v : Value} {d : DataW H} {ps : List MemPlace} (ht : P.underlying t = some (.struct #[f0, f1])) (o : f0.offset = 0 ∧ f1.offset = 1) (y : f0.type = ts ∧ f1.type = ts)
  (c : P.cellsOf t = 2) (cs : P.cellsOf ts = 1) (ct : P.cellTypes P.depth t = some [ts, ts]) (hts : P.underlying ts = some (.slice te)) (hte : P.underlying te = some .string) (ce : P.cellsOf te = 1)
  (hval : Value.okWide P W .any base t v) (h : DataW.Trod enc P W 0 (fun _ => true) true t v d ps) : ∃ g : List (List UInt8) × List (List UInt8), Rep W Mu.zero (.agg [slE eStr g.1, slE eStr g.2]) v := by
 obtain ⟨y0, y1⟩ := y
 simp only [Value.okWide, ht] at hval
 obtain ⟨arr, rfl, _, hrow⟩ := hval
 obtain ⟨fuel, hf⟩ := h
 obtain ⟨v0, v1, a0, a1, n, hcs, h0, h1⟩ := open2 ht o.1 o.2 c (by rw [y0]; exact cs) (by rw [y1]; exact cs) hf
 have harr : arr = #[v0, v1] := by
  have : arr.toList = [v0, v1] := hcs
  cases arr
  simp_all
 subst harr
 rw [y0] at h0
 rw [y1] at h1
 obtain ⟨tys, ht1, _, hcell⟩ := hrow
 rw [ct] at ht1
 cases ht1
 have one : ∀ (m : Nat) (cs' : List Value) (y : DataW H × List MemPlace), DataW.trod enc P W 0 (fun _ => true) true m te cs' = some y → ∃ x : List UInt8, RepL W Mu.zero [HV.str x] cs' := by
  intro m cs' y hy
  obtain ⟨s, rfl, _, hz⟩ := DataW.trod_string hte hy
  exact ⟨s.data.toList, _, _, rfl, rep_string s hz, rfl⟩
 obtain ⟨l, _, _, r0, r0', _⟩ := open_rows (base := base) eStr hts ce (fun x d hd => by
   have hd : d ∈ [HV.str x] := hd
   simp only [List.mem_cons, List.not_mem_nil, or_false] at hd
   subst hd; rfl) one (fun a len cap e => by
   cases e
   obtain ⟨u, hu, hok⟩ := hcell 0 (.slice (some a) len cap) rfl
   cases hu
   simp only [Cell.okWide, hts, Cell.ok] at hok
   exact hok.2.2) h0
 obtain ⟨k, _, _, r1, r1', _⟩ := open_rows (base := base) eStr hts ce (fun x d hd => by
   have hd : d ∈ [HV.str x] := hd
   simp only [List.mem_cons, List.not_mem_nil, or_false] at hd
   subst hd; rfl) one (fun a len cap e => by
   cases e
   obtain ⟨u, hu, hok⟩ := hcell 1 (.slice (some a) len cap) rfl
   cases hu
   simp only [Cell.okWide, hts, Cell.ok] at hok
   exact hok.2.2) h1
 cases r0
 cases r1
 refine ⟨(l, k), ?_⟩
 show _ ∧ _
 refine ⟨fun d hd => ?_, _, rfl, _, _, rfl, r0', _, _, rfl, r1', rfl⟩
 simp only [List.mem_cons, List.not_mem_nil, or_false] at hd
 rcases hd with rfl | rfl <;> rfl
end
end Go.AW
namespace Go.Proofs.YtlddcjolelmpmaaGreat
open Go Go.AW Go.ChangeShapes Go.WideShapes Go.ChangeAt Go.RowKit Go.ChangeMaps
set_option linter.unusedVariables false
theorem ownM : ownKnob Tryz.prog.godebug = none := by kernel_rfl
theorem laidB : laidOutB Tryz.prog = true := by kernel_rfl
theorem wLaw (a0 : TWordsMerges) (a1 : TLabelsStatesEdges) (a2 : List Int) : Pure Tryz.prog 8 [HV.agg [slE eStr a0.1, slE eStr a0.2], HV.agg [HV.int .i64 a1.1, HV.int .i64 a1.2.1, slE eFromLabelTo a1.2.2], slE eInt a2] (· = .bool true) := w_law31_MergingWrites (law31_writes _ _ _)
set_option maxRecDepth 100000 in
theorem liftedL (os : Os) (started : os.Started) (H : Type) (enc : TypeId × Value → H) :
  ReturnsInHanded {} Tryz.checked os 8 .any (Rows.mergingWritesSpec.pre6 enc Tryz.prog Tryz.f8 Rows.mergingWritesRow.domain false) (Rows.mergingWritesSpec.post enc Tryz.prog Tryz.f8 false true false false) := by
 refine returnsInHanded_of_change (C := Tryz.checked) ownM started (by kernel_rfl) Tryz.func8
  (ChangeSpec.witness6 (enc := enc) (C := Tryz.checked) false ⟨#[], #[.agg #[.slice none 0 0, .slice none 0 0], .agg #[.int .i64 0, .int .i64 0, .slice none 0 0], .slice none 0 0], []⟩ 8 (by kernel_rfl) (by kernel_rfl) (by kernel_rfl) (by kernel_rfl)) ?_
 intro W base args ds gs before hval0 hW hcnd _
 have hval : ∀ (j : Nat) t v, Tryz.f8.params[j]? = some t → args[j]? = some v → Value.okWide Tryz.prog W .any base t v := hval0
 have hW' := hW
 obtain ⟨p, q, hA0, hV, rfl, hfz, hnd⟩ := hW
 have hA : DataW.TrodAll enc Tryz.prog W 0 (fun _ => true) true Tryz.f8.params.toList args.toList ds p := hA0
 rw [Tryz.params8] at hA hval
 obtain ⟨v0, vs0, d0, ds0, p0, q0, hargs, rfl, rfl, h0, r0⟩ := trodAll_cons hA
 obtain ⟨v1, vs1, d1, ds1, p1, q1, rfl, rfl, rfl, h1, r1⟩ := trodAll_cons r0
 obtain ⟨v2, vs2, d2, ds2, p2, q2, rfl, rfl, rfl, h2, r2⟩ := trodAll_cons r1
 obtain ⟨rfl, rfl, rfl⟩ := trodAll_nil r2
 obtain rfl : args = #[v0, v1, v2] := by cases args; simp_all
 obtain ⟨rfl, rfl⟩ := trodVars_none hV
 obtain ⟨a0, hr0⟩ := open_joins Tryz.underlying24 ⟨rfl, rfl⟩ ⟨rfl, rfl⟩ (by kernel_rfl) (by kernel_rfl) (by kernel_rfl) Tryz.underlying22 Tryz.underlying9 (by kernel_rfl) (hval 0 24 v0 rfl rfl) h0
 obtain ⟨a1, hr1⟩ := open_graph Tryz.underlying27 ⟨rfl, rfl, rfl⟩ ⟨rfl, rfl, rfl⟩ (by kernel_rfl) (by kernel_rfl) (by kernel_rfl) (by kernel_rfl) Tryz.underlying3 Tryz.underlying25 Tryz.underlying128 ⟨rfl, rfl, rfl⟩ ⟨rfl, rfl, rfl⟩ (by kernel_rfl) (hval 1 27 v1 rfl rfl) h1
 obtain ⟨a2, hr2⟩ := open_ints Tryz.underlying31 Tryz.underlying3 (by kernel_rfl) (hval 2 31 v2 rfl rfl) h2
 refine (calls_of_pure (vs := [v0, v1, v2]) (wLaw a0 a1 a2) ⟨_, _, rfl, hr0, _, _, rfl, hr1, _, _, rfl, hr2, rfl⟩).mono fun e W' ⟨he, hk⟩ => ?_
 subst he
 exact ⟨_, rfl, post_of_true laidB (by kernel_rfl) rfl Tryz.underlying4 rfl hW' hk rfl rfl rfl⟩
theorem mergingWritesProved : Rows.MergingWritesSaid :=
 OpenClaim.holds_of_wide 8 Tryz.f8 rfl rfl rfl rfl rfl rfl rfl ⟨rfl, rfl, rfl, rfl, rfl⟩ rfl rfl rfl rfl rfl (by kernel_rfl) Tryz.func8 (by kernel_rfl)
  (of_decide_eq_true (by kernel_rfl)) (by unfold Func.isWrapper; first | (rw [if_pos (by decide +kernel)]; kernel_rfl) | (rw [if_neg (by decide +kernel)]; exact ⟨rfl, rfl⟩))
  (fun os started H enc _ => liftedL os started H enc)
#print axioms mergingWritesProved
end Go.Proofs.YtlddcjolelmpmaaGreat
