import Derived.Test.YtbfbjlehdhedcaaTe2
import Derived.DeepKeys3
import Derived.Lib.Bytealg
import Derived.Lib.Slices
import Derived.Lib.Strings
import Derived.Lib.Walk
import Derived.Shelf.SortM.Plain
import Derived.Shelf.SortM.SortNone
import Derived.Shelf.Strings.Repeat
import Derived.Test.YtbfbjlehdhedcaaChecked
import Derived.WideKeyMaps
namespace Go.Proofs
open Go
def Try.sortS_ren : Go.Shelf.Ren := ⟨fun | 6 => 10 | 8 => 33 | 9 => 32 | 19 => 69 | 20 => 70 | 21 => 60 | 22 => 61 | 23 => 62 | 24 => 63 | 25 => 64 | 26 => 65 | 27 => 66 | 28 => 67 | 29 => 68 | 36 => 84 | 31 => 85 | 32 => 86 | 37 => 87 | 38 => 88 | 39 => 89 | 41 => 99 | n => n, fun | 27 => 22 | 29 => 9 | 3 => 3 | 32 => 63 | 26 => 22 | 0 => 0 | 44 => 62 | 46 => 60 | 4 => 4 | 36 => 108 | 35 => 107 | 41 => 113 | 5 => 5 | 9 => 9 | 53 => 137 | 57 => 99 | 63 => 148 | 64 => 149 | n => n, fun | n => n⟩
theorem Try.sortS : Go.Proofs.SlLaysM.n6 Try.prog Try.sortS_ren where
 mixed := by kernel_rfl
 f6 := ⟨"slices.Sort[[]string,string]", by decide, Try.func10.trans (congrArg some (by kernel_rfl))⟩
 f8 := Try.func33.trans (congrArg some (by kernel_rfl))
 f9 := ⟨"slices.pdqsortOrdered[string]", by decide, Try.func32.trans (congrArg some (by kernel_rfl))⟩
 f19 := Try.func69.trans (congrArg some (by kernel_rfl))
 f20 := Try.func70.trans (congrArg some (by kernel_rfl))
 f21 := ⟨"slices.insertionSortOrdered[string]", by decide, Try.func60.trans (congrArg some (by kernel_rfl))⟩
 f22 := ⟨"slices.heapSortOrdered[string]", by decide, Try.func61.trans (congrArg some (by kernel_rfl))⟩
 f23 := ⟨"slices.breakPatternsOrdered[string]", by decide, Try.func62.trans (congrArg some (by kernel_rfl))⟩
 f24 := ⟨"slices.choosePivotOrdered[string]", by decide, Try.func63.trans (congrArg some (by kernel_rfl))⟩
 f25 := ⟨"slices.reverseRangeOrdered[string]", by decide, Try.func64.trans (congrArg some (by kernel_rfl))⟩
 f26 := ⟨"slices.partialInsertionSortOrdered[string]", by decide, Try.func65.trans (congrArg some (by kernel_rfl))⟩
 f27 := ⟨"cmp.Less[string]", by decide, Try.func66.trans (congrArg some (by kernel_rfl))⟩
 f28 := ⟨"slices.partitionEqualOrdered[string]", by decide, Try.func67.trans (congrArg some (by kernel_rfl))⟩
 f29 := ⟨"slices.partitionOrdered[string]", by decide, Try.func68.trans (congrArg some (by kernel_rfl))⟩
 f31 := Try.func85.trans (congrArg some (by kernel_rfl))
 f32 := Try.func86.trans (congrArg some (by kernel_rfl))
 f36 := ⟨"slices.siftDownOrdered[string]", by decide, Try.func84.trans (congrArg some (by kernel_rfl))⟩
 f37 := ⟨"slices.medianAdjacentOrdered[string]", by decide, Try.func87.trans (congrArg some (by kernel_rfl))⟩
 f38 := ⟨"slices.medianOrdered[string]", by decide, Try.func88.trans (congrArg some (by kernel_rfl))⟩
 f39 := ⟨"cmp.isNaN[string]", by decide, Try.func89.trans (congrArg some (by kernel_rfl))⟩
 f41 := ⟨"slices.order2Ordered[string]", by decide, Try.func99.trans (congrArg some (by kernel_rfl))⟩
 t0 := Try.underlying0
 a0 := Try.isAgg0
 z0 := Try.sizeOf0
 v0 := Try.zeroValue0
 t3 := Try.underlying3
 a3 := Try.isAgg3
 z3 := Try.sizeOf3
 v3 := Try.zeroValue3
 t4 := Try.underlying4
 a4 := Try.isAgg4
 z4 := Try.sizeOf4
 v4 := Try.zeroValue4
 t5 := Try.underlying5
 a5 := Try.isAgg5
 z5 := Try.sizeOf5
 v5 := Try.zeroValue5
 t9 := Try.underlying9
 a9 := Try.isAgg9
 z9 := Try.sizeOf9
 v9 := Try.zeroValue9
 t26 := Try.underlying22
 a26 := Try.isAgg22
 z26 := Try.sizeOf22
 v26 := Try.zeroValue22
 t27 := Try.underlying22
 a27 := Try.isAgg22
 z27 := Try.sizeOf22
 v27 := Try.zeroValue22
 t29 := Try.underlying9
 a29 := Try.isAgg9
 z29 := Try.sizeOf9
 v29 := Try.zeroValue9
 t32 := Try.underlying63
 a32 := Try.isAgg63
 z32 := Try.sizeOf63
 v32 := Try.zeroValue63
 t35 := Try.underlying107
 a35 := Try.isAgg107
 z35 := Try.sizeOf107
 v35 := Try.zeroValue107
 t36 := Try.underlying108
 a36 := Try.isAgg108
 z36 := Try.sizeOf108
 v36 := Try.zeroValue108
 t41 := Try.underlying113
 a41 := Try.isAgg113
 z41 := Try.sizeOf113
 v41 := Try.zeroValue113
 t44 := Try.underlying62
 a44 := Try.isAgg62
 z44 := Try.sizeOf62
 v44 := Try.zeroValue62
 t46 := Try.underlying60
 a46 := Try.isAgg60
 z46 := Try.sizeOf60
 v46 := Try.zeroValue60
 t53 := Try.underlying137
 a53 := Try.isAgg137
 z53 := Try.sizeOf137
 v53 := Try.zeroValue137
 t57 := Try.underlying99
 a57 := Try.isAgg99
 z57 := Try.sizeOf99
 v57 := Try.zeroValue99
 t63 := Try.underlying148
 a63 := Try.isAgg148
 z63 := Try.sizeOf148
 v63 := Try.zeroValue148
 t64 := Try.underlying149
 a64 := Try.isAgg149
 z64 := Try.sizeOf149
 v64 := Try.zeroValue149
def Try.sortI_ren : Go.Shelf.Ren := ⟨fun | 5 => 116 | 8 => 33 | 7 => 121 | 19 => 69 | 20 => 70 | 10 => 123 | 11 => 124 | 12 => 125 | 13 => 126 | 14 => 127 | 15 => 128 | 16 => 129 | 17 => 130 | 18 => 131 | 30 => 133 | 31 => 85 | 32 => 86 | 33 => 134 | 34 => 135 | 35 => 132 | 40 => 136 | n => n, fun | 23 => 83 | 25 => 3 | 3 => 3 | 32 => 63 | 22 => 83 | 0 => 0 | 44 => 62 | 46 => 60 | 4 => 4 | 36 => 108 | 35 => 107 | 41 => 113 | 5 => 5 | 9 => 9 | 53 => 137 | 57 => 99 | 63 => 148 | 64 => 149 | n => n, fun | n => n⟩
theorem Try.sortI : Go.Proofs.SlLaysM.n5 Try.prog Try.sortI_ren where
 mixed := by kernel_rfl
 f5 := ⟨"slices.Sort[[]int,int]", by decide, Try.func116.trans (congrArg some (by kernel_rfl))⟩
 f7 := ⟨"slices.pdqsortOrdered[int]", by decide, Try.func121.trans (congrArg some (by kernel_rfl))⟩
 f8 := Try.func33.trans (congrArg some (by kernel_rfl))
 f10 := ⟨"slices.insertionSortOrdered[int]", by decide, Try.func123.trans (congrArg some (by kernel_rfl))⟩
 f11 := ⟨"slices.heapSortOrdered[int]", by decide, Try.func124.trans (congrArg some (by kernel_rfl))⟩
 f12 := ⟨"slices.breakPatternsOrdered[int]", by decide, Try.func125.trans (congrArg some (by kernel_rfl))⟩
 f13 := ⟨"slices.choosePivotOrdered[int]", by decide, Try.func126.trans (congrArg some (by kernel_rfl))⟩
 f14 := ⟨"slices.reverseRangeOrdered[int]", by decide, Try.func127.trans (congrArg some (by kernel_rfl))⟩
 f15 := ⟨"slices.partialInsertionSortOrdered[int]", by decide, Try.func128.trans (congrArg some (by kernel_rfl))⟩
 f16 := ⟨"cmp.Less[int]", by decide, Try.func129.trans (congrArg some (by kernel_rfl))⟩
 f17 := ⟨"slices.partitionEqualOrdered[int]", by decide, Try.func130.trans (congrArg some (by kernel_rfl))⟩
 f18 := ⟨"slices.partitionOrdered[int]", by decide, Try.func131.trans (congrArg some (by kernel_rfl))⟩
 f19 := Try.func69.trans (congrArg some (by kernel_rfl))
 f20 := Try.func70.trans (congrArg some (by kernel_rfl))
 f30 := ⟨"slices.siftDownOrdered[int]", by decide, Try.func133.trans (congrArg some (by kernel_rfl))⟩
 f31 := Try.func85.trans (congrArg some (by kernel_rfl))
 f32 := Try.func86.trans (congrArg some (by kernel_rfl))
 f33 := ⟨"slices.medianAdjacentOrdered[int]", by decide, Try.func134.trans (congrArg some (by kernel_rfl))⟩
 f34 := ⟨"slices.medianOrdered[int]", by decide, Try.func135.trans (congrArg some (by kernel_rfl))⟩
 f35 := ⟨"cmp.isNaN[int]", by decide, Try.func132.trans (congrArg some (by kernel_rfl))⟩
 f40 := ⟨"slices.order2Ordered[int]", by decide, Try.func136.trans (congrArg some (by kernel_rfl))⟩
 t0 := Try.underlying0
 a0 := Try.isAgg0
 z0 := Try.sizeOf0
 v0 := Try.zeroValue0
 t3 := Try.underlying3
 a3 := Try.isAgg3
 z3 := Try.sizeOf3
 v3 := Try.zeroValue3
 t4 := Try.underlying4
 a4 := Try.isAgg4
 z4 := Try.sizeOf4
 v4 := Try.zeroValue4
 t5 := Try.underlying5
 a5 := Try.isAgg5
 z5 := Try.sizeOf5
 v5 := Try.zeroValue5
 t9 := Try.underlying9
 a9 := Try.isAgg9
 z9 := Try.sizeOf9
 v9 := Try.zeroValue9
 t22 := Try.underlying83
 a22 := Try.isAgg83
 z22 := Try.sizeOf83
 v22 := Try.zeroValue83
 t23 := Try.underlying83
 a23 := Try.isAgg83
 z23 := Try.sizeOf83
 v23 := Try.zeroValue83
 t25 := Try.underlying3
 a25 := Try.isAgg3
 z25 := Try.sizeOf3
 v25 := Try.zeroValue3
 t32 := Try.underlying63
 a32 := Try.isAgg63
 z32 := Try.sizeOf63
 v32 := Try.zeroValue63
 t35 := Try.underlying107
 a35 := Try.isAgg107
 z35 := Try.sizeOf107
 v35 := Try.zeroValue107
 t36 := Try.underlying108
 a36 := Try.isAgg108
 z36 := Try.sizeOf108
 v36 := Try.zeroValue108
 t41 := Try.underlying113
 a41 := Try.isAgg113
 z41 := Try.sizeOf113
 v41 := Try.zeroValue113
 t44 := Try.underlying62
 a44 := Try.isAgg62
 z44 := Try.sizeOf62
 v44 := Try.zeroValue62
 t46 := Try.underlying60
 a46 := Try.isAgg60
 z46 := Try.sizeOf60
 v46 := Try.zeroValue60
 t53 := Try.underlying137
 a53 := Try.isAgg137
 z53 := Try.sizeOf137
 v53 := Try.zeroValue137
 t57 := Try.underlying99
 a57 := Try.isAgg99
 z57 := Try.sizeOf99
 v57 := Try.zeroValue99
 t63 := Try.underlying148
 a63 := Try.isAgg148
 z63 := Try.sizeOf148
 v63 := Try.zeroValue148
 t64 := Try.underlying149
 a64 := Try.isAgg149
 z64 := Try.sizeOf149
 v64 := Try.zeroValue149
end Go.Proofs
namespace Go.AW
open Go Go.Proofs Go.Sort
theorem repL_map {α : Type} {w : World} {μ : Mu} {f : α → HV} {g : α → Value} : ∀ {l : List α}, RepL w μ (l.map f) (l.map g) ↔ ∀ x ∈ l, Rep w μ (f x) (g x)
 | [] => by simp [RepL]
 | a :: l => by
  simp only [List.map_cons, RepL, List.mem_cons, forall_eq_or_imp]
  constructor
  ·rintro ⟨x, xs, e, h1, h2⟩
   cases e
   exact ⟨h1, repL_map.1 h2⟩
  ·exact fun ⟨h1, h2⟩ => ⟨_, _, rfl, h1, repL_map.2 h2⟩
theorem sorted_world {α : Type} [Inhabited α] {enc : α → Value} {f : α → HV} (hf1 : ∀ x, (f x).one = true) {w : World} {μ : Mu} {H : Heap} {id ver b k : Nat} {e : TypeId} {l d : List α} (hs : SR w μ H) (hg : hget H id = some (ver, .arr k e (l.map f)))
  (hl : μ.loc id = some (ver, some b)) (hrep : ∀ x ∈ l, Rep w μ (f x) (enc x)) (hor : OR w μ (.arr k e (l.map f)) (some b)) (hv : ∀ vs, RepL w μ (l.map f) vs → vs = l.map enc) (hp : d.Perm l) (n : Nat) (os : Array Obj) :
  SR (grow (putRow enc (Sort.ahead w n) b 0 d.toArray) os) μ (hset H id ver (.arr k e (d.map f))) ∧ Evo w μ (grow (putRow enc (Sort.ahead w n) b 0 d.toArray) os) μ := by
 obtain ⟨h0, cur, vs, rest, hrow, hcl, hrl⟩ := hor
 have hvs := hv vs hrl
 subst hvs
 have hlen : d.length = l.length := hp.length_eq
 have hcsz : cur.size = l.length + rest.length := by rw [← Array.length_toList, hcl]; simp
 -- the world with the row put
 have hb := hrow.lt
 obtain ⟨lo, hi, hbk, hfr⟩ := hrow
 have hbk' : (putRow enc (Sort.ahead w n) b 0 d.toArray).heap[b]? = some (.cells (putCells enc 0 d.toArray cur) e (lo, hi)) := by
  show (w.heap.modify b _)[b]? = _
  rw [Array.getElem?_modify, if_pos rfl, hbk]
  rfl
 have hcur' : (putCells enc 0 d.toArray cur).toList = d.map enc ++ rest := by
  apply List.ext_getElem?
  intro i
  rw [Array.getElem?_toList]
  simp only [putCells, Array.getElem?_mapIdx]
  have hc : cur[i]? = (l.map enc ++ rest)[i]? := by rw [← hcl, Array.getElem?_toList]
  rw [hc]
  rcases Nat.lt_or_ge i d.length with hi | hi
  ·rw [List.getElem?_append_left (by simp; omega), List.getElem?_append_left (by simpa using hi), List.getElem?_map, List.getElem?_map, List.getElem?_eq_getElem (by omega : i < l.length), List.getElem?_eq_getElem hi]
   simp only [Option.map_some]
   rw [if_pos ⟨Nat.zero_le _, by simpa using hi⟩]
   simp [hi]
  ·rw [List.getElem?_append_right (by simp; omega), List.getElem?_append_right (by simpa using hi)]
   simp only [List.length_map, hlen]
   cases rest[i - l.length]? with
   | none => rfl
   | some x =>
    simp only [Option.map_some]
    rw [if_neg (by simp; omega)]
 have hsz1 : (putRow enc (Sort.ahead w n) b 0 d.toArray).heap.size = w.heap.size := by rw [size_putRow]; rfl
 have hrow1 : Row (putRow enc (Sort.ahead w n) b 0 d.toArray) b (putCells enc 0 d.toArray cur) e := ⟨lo, hi, hbk', by simpa [putCells] using hfr⟩
 have hold : ∀ b', b' ≠ b → (putRow enc (Sort.ahead w n) b 0 d.toArray).heap[b']? = w.heap[b']? := fun b' hne => by
  show (w.heap.modify b _)[b']? = _
  rw [Array.getElem?_modify, if_neg (fun e => hne e.symm)]
 obtain ⟨h1, h2⟩ := hs.updArr (cs' := d.map f) (w' := putRow enc (Sort.ahead w n) b 0 d.toArray) hg hl ⟨rfl, rfl, rfl⟩ hsz1 hold ⟨lo, hi, hbk, hfr⟩ hrow1 (by simp [putCells]) fun E => by
  refine ⟨fun c hc => ?_, _, d.map enc, rest, hrow1, hcur', repL_map.2 fun x hx => Rep.evo E hs.ok _ _ (hrep x (hp.mem_iff.1 hx))⟩
  obtain ⟨x, _, rfl⟩ := List.mem_map.1 hc
  exact hf1 x
 have g : Grow (putRow enc (Sort.ahead w n) b 0 d.toArray) (grow (putRow enc (Sort.ahead w n) b 0 d.toArray) os) :=
  ⟨⟨rfl, rfl, rfl⟩, by rw [size_grow]; omega, fun b' hb' => by
   show (_ ++ os)[b']? = _
   rw [Array.getElem?_append_left hb']⟩
 exact ⟨h1.grow g, h2.trans (Evo.grow h1 g)⟩
theorem holds_row {α : Type} [Inhabited α] {enc : α → Value} {w : World} {b : Nat} {cur : Array Value} {e : TypeId} {l : List α} {rest : List Value} (hrow : Row w b cur e) (hcl : cur.toList = l.map enc ++ rest) : Holds enc w b 0 l.toArray := by
 intro j hj
 have hj' : j < l.length := by simpa using hj
 have hc : cur[j]? = some (enc l[j]) := by
  rw [← Array.getElem?_toList, hcl, List.getElem?_append_left (by simpa using hj'), List.getElem?_map, List.getElem?_eq_getElem hj']
  rfl
 refine ⟨?_, ?_⟩
 ·rw [Nat.zero_add, hrow.cell, hc]
  simp [hj']
 ·rw [Nat.zero_add]
  exact hrow.free (Array.getElem?_eq_some_iff.1 hc).1
theorem repL_strs {w : World} {μ : Mu} : ∀ {l : List (List UInt8)} {vs : List Value}, RepL w μ (l.map .str) vs → vs = l.map encStr ∧ ∀ x ∈ l, Rep w μ (.str x) (encStr x)
 | [], vs, h => by simp only [List.map_nil, RepL] at h; subst h; exact ⟨rfl, by simp⟩
 | a :: l, vs, ⟨x, xs, e, h1, h2⟩ => by
  obtain ⟨h3, h4⟩ := repL_strs h2
  obtain ⟨rfl, hl⟩ := h1
  subst e
  rw [h3]
  exact ⟨rfl, by simpa using ⟨⟨rfl, hl⟩, h4⟩⟩
theorem w45 {H : Heap} {id ver : Nat} {e : TypeId} {l : List (List UInt8)} {K : HV → Heap → Prop} (hg : hget H id = some (ver, .arr 1 e (l.map .str))) (hlen : l.length < 4611686018427387904)
  (hK : K (.tup []) (hset H id ver (.arr 1 e ((sortS l).map .str)))) : ACall Try.prog 10 [.ar id ver 1 0 l.length] H K := by
 refine ⟨enters' Try.func10 rfl rfl, fun μ w vs hs hr _ => ?_⟩
 obtain ⟨x, xs, rfl, hr, hn⟩ := hr
 cases hn
 obtain ⟨lo, hl, hor⟩ := hs.has _ _ _ hg
 rcases hr with ⟨lo', hl', h⟩ | ⟨hd, _⟩
 ·rw [hl] at hl'
  cases hl'
  rcases h with ⟨rfl, rfl, h0, _⟩ | ⟨b, cap, cur, e', rfl, rfl, hcap, _, hrow, hsz⟩
  ·have h0' : l = [] := List.eq_nil_of_length_eq_zero h0
   subst h0'
   refine (AnyM.slices_Sort_string_none Try.sortS none 0 w).mono ?_
   rintro e' w' ⟨rfl, rfl⟩
   have hset_same : SR w' μ (hset H id ver (.arr 1 e ((sortS []).map .str))) := by
    refine ⟨hs.ok, fun j v o ho => ?_, fun j x hx => ?_, hs.inj, hs.held⟩
    ·rw [hget_hset] at ho
     split at ho
     ·rename_i ej; subst ej; cases ho; exact ⟨none, hl, by show (sortS []).map HV.str = []; simp [sortS]⟩
     ·exact hs.has _ _ _ ho
    ·rw [hget_hset]
     split
     ·exact ⟨_, rfl⟩
     ·exact hs.only _ _ hx
   exact ⟨_, .tup [], _, μ, rfl, hK, hset_same, ⟨[], rfl, rfl⟩, Evo.refl _ _⟩
  ·have hor' := hor
   obtain ⟨h0, cur', vs', rest, hrow', hcl, hrl⟩ := hor
   obtain ⟨hvs, hreps⟩ := repL_strs hrl
   subst hvs
   refine (AnyM.slices_Sort_string Try.sortS b 0 cap l w (holds_row hrow' hcl) hrow'.lt hlen).mono ?_
   rintro e2 w' ⟨rfl, n, os, rfl⟩
   obtain ⟨h1, h2⟩ := sorted_world (f := HV.str) (fun _ => rfl) hs hg hl hreps hor' (fun vs hv => (repL_strs hv).1) (List.mergeSort_perm l _) n os
   exact ⟨_, .tup [], _, μ, rfl, hK, h1, ⟨[], rfl, rfl⟩, h2⟩
 ·exact absurd hl (hd.2 lo)
theorem w45n {H : Heap} {K : HV → Heap → Prop} (hK : K (.tup []) H) : ACall Try.prog 10 [.v (.slice none 0 0)] H K := by
 refine ⟨enters' Try.func10 rfl rfl, fun μ w vs hs hr _ => ?_⟩
 obtain ⟨x, xs, rfl, hr, hn⟩ := hr
 cases hn
 cases hr
 refine (AnyM.slices_Sort_string_none Try.sortS none 0 w).mono ?_
 rintro e' w' ⟨rfl, rfl⟩
 exact ⟨_, .tup [], _, μ, rfl, hK, hs, ⟨[], rfl, rfl⟩, Evo.refl _ _⟩
theorem sorts45 : SortsS Try.prog 10 := ⟨fun _ _ _ _ _ _ hg hl hK => w45 hg hl hK, fun _ _ hK => w45n hK⟩
end Go.AW
namespace Go.AW
open Go Go.Proofs Go.Sort Go.Lib
theorem put_world {α : Type} [Inhabited α] {enc : α → Value} {f : α → HV} (hf1 : ∀ x, (f x).one = true) {w : World} {μ : Mu} {H : Heap} {id ver b k : Nat} {e : TypeId} {l d : List α} (hs : SR w μ H) (hg : hget H id = some (ver, .arr k e (l.map f)))
  (hl : μ.loc id = some (ver, some b)) (hrep : ∀ x ∈ d, Rep w μ (f x) (enc x)) (hor : OR w μ (.arr k e (l.map f)) (some b)) (hv : ∀ vs, RepL w μ (l.map f) vs → vs = l.map enc) (hlen : d.length = l.length) (n : Nat) :
  SR (putRow enc (Sort.ahead w n) b 0 d.toArray) μ (hset H id ver (.arr k e (d.map f))) ∧ Evo w μ (putRow enc (Sort.ahead w n) b 0 d.toArray) μ := by
 obtain ⟨h0, cur, vs, rest, hrow, hcl, hrl⟩ := hor
 have hvs := hv vs hrl
 subst hvs
 have hcsz : cur.size = l.length + rest.length := by rw [← Array.length_toList, hcl]; simp
 obtain ⟨lo, hi, hbk, hfr⟩ := hrow
 have hbk' : (putRow enc (Sort.ahead w n) b 0 d.toArray).heap[b]? = some (.cells (putCells enc 0 d.toArray cur) e (lo, hi)) := by
  show (w.heap.modify b _)[b]? = _
  rw [Array.getElem?_modify, if_pos rfl, hbk]
  rfl
 have hcur' : (putCells enc 0 d.toArray cur).toList = d.map enc ++ rest := by
  apply List.ext_getElem?
  intro i
  rw [Array.getElem?_toList]
  simp only [putCells, Array.getElem?_mapIdx]
  have hc : cur[i]? = (l.map enc ++ rest)[i]? := by rw [← hcl, Array.getElem?_toList]
  rw [hc]
  rcases Nat.lt_or_ge i d.length with hi | hi
  ·rw [List.getElem?_append_left (by simp; omega), List.getElem?_append_left (by simpa using hi), List.getElem?_map, List.getElem?_map, List.getElem?_eq_getElem (by omega : i < l.length), List.getElem?_eq_getElem hi]
   simp only [Option.map_some]
   rw [if_pos ⟨Nat.zero_le _, by simpa using hi⟩]
   simp [hi]
  ·rw [List.getElem?_append_right (by simp; omega), List.getElem?_append_right (by simpa using hi)]
   simp only [List.length_map, hlen]
   cases rest[i - l.length]? with
   | none => rfl
   | some x =>
    simp only [Option.map_some]
    rw [if_neg (by simp; omega)]
 have hsz1 : (putRow enc (Sort.ahead w n) b 0 d.toArray).heap.size = w.heap.size := by rw [size_putRow]; rfl
 have hrow1 : Row (putRow enc (Sort.ahead w n) b 0 d.toArray) b (putCells enc 0 d.toArray cur) e := ⟨lo, hi, hbk', by simpa [putCells] using hfr⟩
 have hold : ∀ b', b' ≠ b → (putRow enc (Sort.ahead w n) b 0 d.toArray).heap[b']? = w.heap[b']? := fun b' hne => by
  show (w.heap.modify b _)[b']? = _
  rw [Array.getElem?_modify, if_neg (fun e => hne e.symm)]
 exact hs.updArr (cs' := d.map f) (w' := putRow enc (Sort.ahead w n) b 0 d.toArray) hg hl ⟨rfl, rfl, rfl⟩ hsz1 hold ⟨lo, hi, hbk, hfr⟩ hrow1 (by simp [putCells]) fun E => by
  refine ⟨fun c hc => ?_, _, d.map enc, rest, hrow1, hcur', repL_map.2 fun x hx => Rep.evo E hs.ok _ _ (hrep x hx)⟩
  obtain ⟨x, _, rfl⟩ := List.mem_map.1 hc
  exact hf1 x
end Go.AW
namespace Go.Proofs
open Go
set_option maxHeartbeats 1000000 in
set_option maxRecDepth 100000 in
theorem Try.stringslite_IndexByte (s : ByteArray) (c : Int) (w : World) :
  Calls Try.prog 98 #[.string s, .int .u8 c] w fun e w' => e = .returned (.int .i64 (Lib.indexByte s.data.toList c.toNat.toUInt8)) ∧ w' = w := by
 go_enter Try.func98, Try.ntmps98
 go_wp2
 rw [run_callFunc_extern Try.func106 (by kernel_rfl) (by kernel_rfl) (by kernel_rfl) (e := Extern.BytealgIndexByte.indexByte) (by kernel_rfl), Lib.run_indexByteString]
 simp only [Result.andThen]
 rw [Oper.upon_value]
 go_wp2
 go_ret
 exact ⟨rfl, rfl⟩
set_option maxHeartbeats 1000000 in
theorem Try.strings_IndexByte (s : ByteArray) (c : Int) (w : World) :
  Calls Try.prog 82 #[.string s, .int .u8 c] w fun e w' => e = .returned (.int .i64 (Lib.indexByte s.data.toList c.toNat.toUInt8)) ∧ w' = w := by
 go_enter Try.func82, Try.ntmps82
 go_wp2_with (go_at_call 98; refine (Try.stringslite_IndexByte _ _ _).mono ?_; rintro e w' ⟨rfl, rfl⟩)
 go_ret
 exact ⟨rfl, rfl⟩
end Go.Proofs
namespace Go.AW
open Go Go.Proofs
theorem idx_wf (l : List UInt8) (c : UInt8) (hl : l.length ≤ maxLen) : (Lit.int .i64 (Lib.indexByte l c)).wf = true := by
 have h : ∀ l : List UInt8, -1 ≤ Lib.indexByte l c ∧ Lib.indexByte l c ≤ l.length := by
  intro l
  induction l with
  | nil => simp [Lib.indexByte]
  | cons a l ih =>
   simp only [Lib.indexByte, List.length_cons]
   split
   ·omega
   ·split
    ·omega
    ·omega
 have := h l
 simp only [maxLen] at hl
 simp only [Lit.wf, IntKind.min, IntKind.max, IntKind.signed, IntKind.bits, Bool.and_eq_true, decide_eq_true_eq]
 simp
 omega
theorem w51 (l : List UInt8) (c : Int) : Pure Try.prog 82 [.str l, .int .u8 c] (· = .int .i64 (Lib.indexByte l c.toNat.toUInt8)) := by
 refine ⟨enters' Try.func82 rfl rfl, fun μ w vs hs hr _ => ?_⟩
 obtain ⟨x, xs, rfl, ⟨rfl, hl⟩, y, ys, rfl, ⟨rfl, _⟩, hn⟩ := hr
 cases hn
 refine (Try.strings_IndexByte ⟨l.toArray⟩ c w).mono ?_
 rintro e w' ⟨rfl, rfl⟩
 exact ⟨_, _, [], μ, rfl, ⟨rfl, trivial, rfl⟩, hs, ⟨by simp, idx_wf l _ hl⟩, Evo.refl _ _⟩
end Go.AW
namespace Go.Proofs
open Go
end Go.Proofs
namespace Go.AW
open Go Go.Proofs Go.Sort Go.Lib
set_option linter.unusedVariables false
theorem c_sortS : SortsS Try.prog 10 := sorts45
theorem w_strings_IndexByte {l : List UInt8} {c r : Int} (h : m_strings_IndexByte l c = some r) : Pure Try.prog 82 [HV.str l, HV.int .u8 c] (· = HV.int .i64 r) := by
 cases h
 exact w51 l c
end Go.AW
namespace Go.AW
open Go
theorem LeL.ones : ∀ {aa bs : List HV} (_ : LeL aa bs), ones aa → ones bs
 | _, _, .nil, h => h
 | _, _, .cons h h', h0 => fun c hc => by
  rcases List.mem_cons.1 hc with rfl | hc
  ·have := h0 _ (List.mem_cons_self ..)
   cases h with
   | refl => exact this
   | nil => rfl
   | empty => rfl
  ·exact LeL.ones h' (fun d hd => h0 d (List.mem_cons_of_mem _ hd)) c hc
section
variable {P : Program} {ro : Option Nat} {N : Nat} {all : Array Oper} {s : AS} {rest : List Oper} {o : Oper} {K : AS → Prop} {fid : Nat} {sl : List (Nat × HV)} {H : Heap}
theorem AOps.to {is : List Nat} (h : s.to (AOps P ro N all is K)) : AOps P ro N all is K s := fun w0 μ0 μ a w Q hs hE hK => by
 obtain ⟨μ1, t, ht, hs1, E1⟩ := h ro N w0.heap.size μ a w hs
 exact ht w0 μ0 μ1 a w Q hs1 (hE.trans E1) hK
end
end Go.AW
namespace Go.AW
open Go
section
variable {P : Program} {s : AS}
end
end Go.AW
namespace Go.AW
open Go
section
variable {P : Program} {ro : Option Nat} {N : Nat} {s : AS} {ops : Array Oper} {K : AS → Prop} {F : List Nat → AS → Prop} {L : List Nat}
theorem AOpI.mono {i : Nat} {G G' : AS → Prop} (h : AOpI P ro N ops i G s) (hg : ∀ s', G s' → G' s') : AOpI P ro N ops i G' s := fun w0 μ0 μ a w next Q hs hE hK =>
 h w0 μ0 μ a w next Q hs hE fun μ2 s2 a2 w2 hk hs2 hE2 => hK μ2 s2 a2 w2 (hg s2 hk) hs2 hE2
theorem l_inv (hF : F = AnyL P ro N ops K) (hda : daOk ops = true) (p : Nat) (hp : p ≤ ops.size) (hw : ((List.range ops.size).all fun i => decide (i < p) || (List.range p).all fun k => (da ops i).contains k) = true)
  (Inv : List Nat → AS → Prop) (hstep : ∀ L s i, Inv L s → i < p → i ∉ L → (∀ k ∈ da ops i, k ∈ L) → AOpI P ro N ops i (Inv (i :: L)) s)
  (hend : ∀ L s, Inv L s → (∀ k, k < p ↔ k ∈ L) → F L s) : ∀ (d : Nat) (L : List Nat) (s : AS), Inv L s → (∀ k ∈ L, k < p) → L.Nodup → L.length + d = p → F L s
 | 0, L, s, hI, hL, hn, hd => by
  refine hend L s hI fun k => ⟨fun hk => Classical.byContradiction fun hkn => ?_, hL k⟩
  have hsub : (k :: L) ⊆ List.range p := fun x hx => by
   rcases List.mem_cons.1 hx with rfl | hx
   ·exact List.mem_range.2 hk
   ·exact List.mem_range.2 (hL x hx)
  have := (List.nodup_cons.2 ⟨hkn, hn⟩).length_le_of_subset hsub
  simp only [List.length_cons, List.length_range] at this
  omega
 | d + 1, L, s, hI, hL, hn, hd => by
  have hex : ∃ k, k < p ∧ k ∉ L := Classical.byContradiction fun hno => by
   have hsub : List.range p ⊆ L := fun x hx => Classical.byContradiction fun hx' => hno ⟨x, List.mem_range.1 hx, hx'⟩
   have := (List.nodup_range (n := p)).length_le_of_subset hsub
   simp only [List.length_range] at this
   omega
  obtain ⟨k0, hk0, hkL⟩ := hex
  have hlt : ∀ i, i ∈ readyL ops L → i < p ∧ i ∉ L ∧ ∀ k ∈ da ops i, k ∈ L := fun i hi => by
   simp only [readyL, List.mem_filter, List.mem_range, Bool.and_eq_true, Bool.not_eq_true', List.all_eq_true] at hi
   obtain ⟨h1, h2, h3⟩ := hi
   have h2' : i ∉ L := fun h => by rw [List.contains_iff_mem.2 h] at h2; cases h2
   refine ⟨Classical.byContradiction fun hip => ?_, h2', fun k hk => List.contains_iff_mem.1 (h3 k hk)⟩
   have := List.all_eq_true.1 hw i (List.mem_range.2 h1)
   rw [Bool.or_eq_true, decide_eq_true_eq] at this
   rcases this with h | h
   ·exact hip h
   ·have := List.all_eq_true.1 h k0 (List.mem_range.2 hk0)
    exact hkL (List.contains_iff_mem.1 (h3 k0 (List.contains_iff_mem.1 this)))
  -- some operation is ready
  have hready : (readyL ops L).isEmpty = false := by
   have hdak := daOk_spec hda
   -- the least that is not done
   have hmin : ∃ m, m < p ∧ m ∉ L ∧ ∀ k, k < m → k ∈ L := by
    have : ∀ n, (∃ m, m < n ∧ m < p ∧ m ∉ L) → ∃ m, m < p ∧ m ∉ L ∧ ∀ k, k < m → k ∈ L := by
     intro n
     induction n with
     | zero => rintro ⟨m, h, _⟩; omega
     | succ n ih =>
      rintro ⟨m, h1, h2, h3⟩
      by_cases hc : ∃ m, m < n ∧ m < p ∧ m ∉ L
      ·exact ih hc
      ·refine ⟨m, h2, h3, fun k hk => Classical.byContradiction fun hkn => hc ⟨k, by omega, by omega, hkn⟩⟩
    exact this p ⟨k0, hk0, hk0, hkL⟩
   obtain ⟨m, hm, hmL, hmin⟩ := hmin
   have : m ∈ readyL ops L := by
    simp only [readyL, List.mem_filter, List.mem_range, Bool.and_eq_true, Bool.not_eq_true', List.all_eq_true]
    refine ⟨by omega, ?_, fun k hk => List.contains_iff_mem.2 (hmin k (hdak m (by omega) k hk))⟩
    cases h : L.contains m with
    | false => rfl
    | true => exact absurd (List.contains_iff_mem.1 h) hmL
   cases hl : readyL ops L with
   | nil => rw [hl] at this; cases this
   | cons a l => rfl
  refine l_step hF hda (readyL ops L) rfl hready ?_
  have hall : ∀ l : List Nat, (∀ i ∈ l, i ∈ readyL ops L) → allR l fun i => AOpI P ro N ops i (F (i :: L)) s := by
   intro l
   induction l with
   | nil => intro _; exact trivial
   | cons i l ih =>
    intro hl
    obtain ⟨h1, h2, h3⟩ := hlt i (hl i (List.mem_cons_self ..))
    refine ⟨(hstep L s i hI h1 h2 h3).mono fun s' h' => ?_, ih fun j hj => hl j (List.mem_cons_of_mem _ hj)⟩
    refine l_inv hF hda p hp hw Inv hstep hend d (i :: L) s' h' (fun k hk => ?_) (List.nodup_cons.2 ⟨h2, hn⟩) (by simp only [List.length_cons]; omega)
    rcases List.mem_cons.1 hk with rfl | hk
    ·exact h1
    ·exact hL k hk
  exact hall _ fun i hi => hi
end
end Go.AW
namespace Go.AW
open Go Go.MapKept
structure IsKv (P : Program) (kt : TypeId) (h : HV) (v : Value) : Prop where
 rep : ∀ w μ x, Rep w μ h x → x = v
 lit : ∃ l, keyOf P kt v = some l
section
variable {P : Program} {ro : Option Nat} {N : Nat} {s : AS} {w w' : World} {μ : Mu} {H : Heap}
structure KPut (es es' : List (Value × Value)) (kv v : Value) : Prop where
 old : ∀ e ∈ es', e ∈ es ∨ e = (kv, v)
 new : (kv, v) ∈ es'
 keep : ∀ e ∈ es, e.1 ≠ kv → e ∈ es'
end
section
variable {P : Program} {ro : Option Nat} {N : Nat} {o : Oper} {sl : List (Nat × HV)} {H : Heap} {all : Array Oper} {rest : List Oper} {K : AS → Prop}
theorem ret_A {s : AS} {rvs : List ResultVar} {hs : List HV} {q : HV} {e : Exit} {K : HV → Heap → Prop} (he : e = .normal ∨ e = .ret) (hr : resAll P s rvs fun hs' => hs' = hs) (hj : joinR hs = q) (hk : K q s.heap) : retQ P rvs K e s :=
 ⟨he, resAll_mono hr fun hs' e => by subst e; exact ⟨q, s.heap, by rw [hj]; exact Conv.refl _ _, hk⟩⟩
end
end Go.AW
namespace Go.AW
open Go
def rid (i : Nat) : Nat := (1000000 + i) * 1000 + 30
abbrev Rws := List (Nat × List Int)
def hdr : Nat → Rws → List HV
 | _, [] => []
 | k, (v, l) :: t => .ar (rid k) v 1 0 l.length :: hdr (k + 1) t
section
variable {α : Type} {en : EncL α} {et : TypeId}
structure InvG (b np sp : Nat) (base : List (Nat × HV)) (val : Nat → Nat → HV) (H0 : Heap) (H1 : Nat → Heap) (v' : Nat) (L : List Nat) (s : AS) : Prop where
 base : ∀ p ∈ base, sget s.slots p.1 = some p.2
 val : ∀ k ∈ L, k < np → sget s.slots (b + k) = some (val v' k)
 heap : ∀ id x, hget (if sp ∈ L then H1 v' else H0) id = some x → hget s.heap id = some x
theorem sget_putB {b i : Nat} {hv : HV} {sl : List (Nat × HV)} {t : Nat} (h : t ≠ b + i) : sget ((b + i, hv) :: sl) t = sget sl t := by simp only [sget]; rw [if_neg h]
theorem InvG.put {b np sp : Nat} {base : List (Nat × HV)} {val : Nat → Nat → HV} {H0 : Heap} {H1 : Nat → Heap} {v' : Nat} {L : List Nat} {sl : List (Nat × HV)} {H : Heap} (h : InvG b np sp base val H0 H1 v' L ⟨sl, H⟩) (hb : ∀ p ∈ base, p.1 < b) {i : Nat} (hi : i ≠ sp) {hv : HV} (hval : val v' i = hv) : InvG b np sp base val H0 H1 v' (i :: L) ⟨(b + i, hv) :: sl, H⟩ where
 base := fun p hp => by
  have := hb p hp
  show sget ((b + i, hv) :: sl) p.1 = _
  rw [sget_putB (by omega)]
  exact h.base p hp
 val := fun k hk h12 => by
  show sget ((b + i, hv) :: sl) (b + k) = _
  by_cases e : k = i
  ·subst e
   simp only [sget, if_true, hval]
  ·rw [sget_putB (by omega)]
   rcases List.mem_cons.1 hk with h1 | h1
   ·exact absurd h1 e
   ·exact h.val k h1 h12
 heap := fun id x hx => by
  refine h.heap id x ?_
  have : (sp ∈ i :: L) ↔ sp ∈ L := by
   rw [List.mem_cons]
   exact ⟨fun h => h.elim (fun e => absurd e.symm hi) (fun h => h), .inr⟩
  by_cases h11 : sp ∈ L
  ·rw [if_pos (this.2 h11)] at hx
   rw [if_pos h11]; exact hx
  ·rw [if_neg (fun h => h11 (this.1 h))] at hx
   rw [if_neg h11]; exact hx
theorem all_range {p n : Nat} {L : List Nat} (hall : ∀ k, k < p ↔ k ∈ L) : (List.range n).all (fun i => L.contains i == (List.range p).contains i) = true := by
 rw [List.all_eq_true]
 intro i _
 have e : L.contains i = (List.range p).contains i := by
  rw [Bool.eq_iff_iff, List.contains_iff_mem, List.contains_iff_mem, List.mem_range]
  exact (hall i).symm
 rw [e]
 simp
end
end Go.AW
namespace Go.AW
open Go
set_option linter.unusedVariables false
structure InvT (b np : Nat) (base : List (Nat × HV)) (val : Nat → HV) (Hp : Heap → Prop) (L : List Nat) (s : AS) : Prop where
 base : ∀ p ∈ base, sget s.slots p.1 = some p.2
 val : ∀ k ∈ L, k < np → sget s.slots (b + k) = some (val k)
 heap : Hp s.heap
theorem InvT.put {b np : Nat} {base : List (Nat × HV)} {val : Nat → HV} {Hp : Heap → Prop} {L : List Nat} {sl : List (Nat × HV)} {H H' : Heap} (h : InvT b np base val Hp L ⟨sl, H⟩) (hb : ∀ p ∈ base, p.1 < b) {i : Nat} {hv : HV} (hval : val i = hv) (hH : Hp H') : InvT b np base val Hp (i :: L) ⟨(b + i, hv) :: sl, H'⟩ where
 base := fun p hp => by
  have := hb p hp
  show sget ((b + i, hv) :: sl) p.1 = _
  rw [sget_putB (by omega)]
  exact h.base p hp
 val := fun k hk h12 => by
  show sget ((b + i, hv) :: sl) (b + k) = _
  by_cases e : k = i
  ·subst e
   simp only [sget, if_true, hval]
  ·rw [sget_putB (by omega)]
   rcases List.mem_cons.1 hk with h1 | h1
   ·exact absurd h1 e
   ·exact h.val k h1 h12
 heap := hH
theorem AW.seqG {P : Program} {ro : Option Nat} {N : Nat} {s : AS} {Q : Exit → AS → Prop} {x y : Code} (G : AS → Prop) (hx : AW P ro N x (fun e s' => e = .normal ∧ G s') s) (hy : ∀ s', G s' → AW P ro N y Q s') : AW P ro N (.seq x y) Q s :=
 AW.seq (hx.mono fun e s' h => by
  obtain ⟨rfl, hg⟩ := h
  exact hy s' hg)
end Go.AW
namespace Go.AW
def lcsF : Nat → List UInt8 → List UInt8 → Nat
 | 0, _, _ => 0
 | _ + 1, [], _ => 0
 | _ + 1, _ :: _, [] => 0
 | n + 1, a :: u, b :: v => if a = b then 1 + lcsF n u v else max (lcsF n u (b :: v)) (lcsF n (a :: u) v)
def lcs (u v : List UInt8) : Nat := lcsF (u.length + v.length) u v
theorem lcsF_nil : ∀ (n : Nat) (v : List UInt8), lcsF n [] v = 0
 | 0, _ => rfl
 | _ + 1, _ => rfl
theorem lcsF_nil' : ∀ (n : Nat) (u : List UInt8), lcsF n u [] = 0
 | 0, _ => rfl
 | _ + 1, [] => rfl
 | _ + 1, _ :: _ => rfl
theorem lcsF_add : ∀ (n : Nat) (u v : List UInt8), u.length + v.length ≤ n → lcsF n u v = lcsF (u.length + v.length) u v
 | n, [], v, _ => by rw [lcsF_nil, lcsF_nil]
 | n, _ :: _, [], _ => by rw [lcsF_nil', lcsF_nil']
 | 0, _ :: _, _ :: _, h => by simp at h
 | n + 1, a :: u, b :: v, h => by
  simp only [List.length_cons] at h
  have e : (a :: u).length + (b :: v).length = (u.length + v.length + 1) + 1 := by simp only [List.length_cons]; omega
  rw [e]
  show (if a = b then _ else _) = (if a = b then _ else _)
  have h1 := lcsF_add n u v (by omega)
  have h2 := lcsF_add n u (b :: v) (by simp only [List.length_cons]; omega)
  have h3 := lcsF_add n (a :: u) v (by simp only [List.length_cons]; omega)
  have h4 := lcsF_add (u.length + v.length + 1) u v (by omega)
  have e2 : u.length + (b :: v).length = u.length + v.length + 1 := by simp only [List.length_cons]; omega
  have e3 : (a :: u).length + v.length = u.length + v.length + 1 := by simp only [List.length_cons]; omega
  rw [h1, h2, h3, h4, e2, e3]
theorem lcs_cons (a b : UInt8) (u v : List UInt8) : lcs (a :: u) (b :: v) = if a = b then 1 + lcs u v else max (lcs u (b :: v)) (lcs (a :: u) v) := by
 have e : (a :: u).length + (b :: v).length = (u.length + v.length + 1) + 1 := by simp only [List.length_cons]; omega
 unfold lcs
 rw [e]
 show (if a = b then _ else _) = _
 have h4 := lcsF_add (u.length + v.length + 1) u v (by omega)
 have e2 : u.length + (b :: v).length = u.length + v.length + 1 := by simp only [List.length_cons]; omega
 have e3 : (a :: u).length + v.length = u.length + v.length + 1 := by simp only [List.length_cons]; omega
 rw [h4, e2, e3]
theorem lcs_le : ∀ (n : Nat) (u v : List UInt8), lcsF n u v ≤ u.length
 | 0, _, _ => Nat.zero_le _
 | _ + 1, [], _ => Nat.zero_le _
 | _ + 1, _ :: _, [] => Nat.zero_le _
 | n + 1, a :: u, b :: v => by
  show (if a = b then _ else _) ≤ _
  have h1 := lcs_le n u v
  have h2 := lcs_le n u (b :: v)
  have h3 := lcs_le n (a :: u) v
  simp only [List.length_cons] at *
  split <;> omega
def lc (u v : List UInt8) (i k : Nat) : Nat := lcs (u.drop i) (v.drop k)
theorem lc_le (u v : List UInt8) (i k : Nat) : lc u v i k ≤ u.length := by
 have := lcs_le ((u.drop i).length + (v.drop k).length) (u.drop i) (v.drop k)
 unfold lc lcs
 simp only [List.length_drop] at this ⊢
 omega
theorem lc_end {u v : List UInt8} {i k : Nat} (h : i = u.length ∨ k = v.length) : lc u v i k = 0 := by
 unfold lc lcs
 rcases h with rfl | rfl
 ·rw [List.drop_length, lcsF_nil]
 ·rw [List.drop_length, lcsF_nil']
theorem lc_go {u v : List UInt8} {i k : Nat} (hi : i < u.length) (hk : k < v.length) : lc u v i k = if u[i] = v[k] then 1 + lc u v (i + 1) (k + 1) else max (lc u v (i + 1) k) (lc u v i (k + 1)) := by
 unfold lc
 rw [List.drop_eq_getElem_cons hi, List.drop_eq_getElem_cons hk, lcs_cons]
structure TabInv (u v : List UInt8) (kn : List Int) : Prop where
 len : kn.length = (u.length + 1) * (v.length + 1)
 val : ∀ i k, i ≤ u.length → k ≤ v.length → kn[i * (v.length + 1) + k]? = some 0 ∨ kn[i * (v.length + 1) + k]? = some (1 + (lc u v i k : Int))
theorem tab_lt {n m i k : Nat} (hi : i ≤ n) (hk : k ≤ m) : i * (m + 1) + k < (n + 1) * (m + 1) := by
 have : i * (m + 1) ≤ n * (m + 1) := Nat.mul_le_mul_right _ hi
 rw [Nat.add_mul]
 omega
theorem tab_inj {m i k j l : Nat} (hk : k ≤ m) (hl : l ≤ m) (h : i * (m + 1) + k = j * (m + 1) + l) : i = j ∧ k = l := by
 have h1 : (i * (m + 1) + k) / (m + 1) = i := by rw [Nat.mul_comm, Nat.mul_add_div (by omega), Nat.div_eq_of_lt (by omega)]; omega
 have h2 : (j * (m + 1) + l) / (m + 1) = j := by rw [Nat.mul_comm, Nat.mul_add_div (by omega), Nat.div_eq_of_lt (by omega)]; omega
 have : i = j := by rw [← h1, ← h2, h]
 subst this
 exact ⟨rfl, by omega⟩
theorem TabInv.new (u v : List UInt8) : TabInv u v (List.replicate ((u.length + 1) * (v.length + 1)) 0) where
 len := by simp
 val i k hi hk := .inl (by rw [List.getElem?_replicate, if_pos (tab_lt hi hk)])
theorem TabInv.set {u v : List UInt8} {kn : List Int} (h : TabInv u v kn) {i k : Nat} (hi : i ≤ u.length) (hk : k ≤ v.length) : TabInv u v (kn.set (i * (v.length + 1) + k) (1 + (lc u v i k : Int))) where
 len := by rw [List.length_set]; exact h.len
 val j l hj hl := by
  by_cases e : i * (v.length + 1) + k = j * (v.length + 1) + l
  ·obtain ⟨rfl, rfl⟩ := tab_inj hk hl e
   refine .inr ?_
   rw [List.getElem?_set_self (by rw [h.len]; exact tab_lt hi hk)]
  ·rw [List.getElem?_set_ne e]
   exact h.val j l hj hl
end Go.AW
namespace Go.AW
open Go Go.Proofs
set_option linter.unusedVariables false
abbrev tcaps (v5 v6 : Nat) (u v : List UInt8) : List HV := [.fptr [.str u] 0, .fptr [.str v] 0, .ptr 25005 v5 0, .ptr 25006 v6 0]
abbrev tfn (v5 v6 : Nat) (u v : List UInt8) : HV := HV.fn (.func 52) [] (tcaps v5 v6 u v)
abbrev hTb (v5 v14 v6 N : Nat) (u v : List UInt8) (kn : List Int) : Heap := [(25005, v5, .arr 1 83 [.ar 25014 v14 1 0 N]), (25014, v14, .arr 1 3 (eInt.E kn)), (25006, v6, .arr 1 55 [tfn v5 v6 u v])]
def valT (v14 v5 v6 p : Nat) (u v : List UInt8) (i k : Nat) : Nat → HV
  | 0 => HV.ptr 25014 v14 p
  | 1 | 6 => tfn v5 v6 u v
  | 2 | 7 => hI (i : Int)
  | 3 => hI ((i + 1 : Nat) : Int)
  | 4 | 8 => hI (k : Int)
  | 5 => hI (lc u v (i + 1) k : Int)
  | 9 => hI ((k + 1 : Nat) : Int)
  | 10 => hI (lc u v i (k + 1) : Int)
  | 11 => hI (max (lc u v (i + 1) k : Int) (lc u v i (k + 1) : Int))
  | _ => hI (IntKind.wrap .i64 (1 + max (lc u v (i + 1) k : Int) (lc u v i (k + 1) : Int)))
section
variable {v5 v14 v6 N : Nat} {u v : List UInt8}
set_option maxHeartbeats 8000000 in
set_option maxRecDepth 100000 in
theorem at_call (hN : N = (u.length + 1) * (v.length + 1)) (hu : u.length ≤ 1000) (hv : v.length ≤ 1000) : ∀ (d i k : Nat) (kn : List Int), (u.length - i) + (v.length - k) ≤ d → i ≤ u.length → k ≤ v.length → TabInv u v kn →
    ACall Try.prog 52 ([hI (i : Int), hI (k : Int)] ++ tcaps v5 v6 u v) (hTb v5 v14 v6 N u v kn) (fun r H' => r = hI (lc u v i k : Int) ∧ ∃ kn', TabInv u v kn' ∧ H' = hTb v5 v14 v6 N u v kn') := by
  intro d
  induction d with
  | zero =>
    intro i k kn hd hi hk hT
    refine ACall.of_body Try.func52 rfl rfl (lb rfl) ?_
    unfold Try.f52
    dsimp only [enumS, Nat.reduceAdd, List.cons_append, List.nil_append]
    refine AW.rgs rfl fun K hK => mv rfl rfl ?_
    refine b_nil (hK _ ?_)
    refine AW.seq ?_
    refine AW.rgs rfl fun K hK => mv rfl rfl (bv rfl (v_loadF ty9 rfl (l_lit rfl rfl)) (bv rfl (v_lenS rfl rfl ty9 rfl) (bv rfl (v_bin rfl rfl b_eql) (mv rfl rfl ?_))))
    have hg : ((i : Int) = (u.length : Int)) := by omega
    refine b_F rfl rfl rfl rfl rfl (decide_eq_true hg) ?_
    refine b_F rfl rfl rfl rfl rfl rfl ?_
    refine b_F rfl rfl rfl rfl rfl rfl ?_
    refine b_F rfl rfl rfl rfl rfl rfl ?_
    refine bv rfl (v_pickT rfl rfl rfl) ?_
    refine b_nil (hK _ ?_)
    refine AW.cond rfl (fun hc => ?_) (fun hc => by cases hc)
    refine AW.rgs rfl fun K hK => mv rfl rfl ?_
    refine b_nil (hK _ ?_)
    refine AW.ret ?_
    refine ret_A (hs := [hI 0]) (.inr rfl) (resT rfl rfl) rfl ⟨?_, kn, hT, rfl⟩
    rw [lc_end (.inl (by omega))]
    rfl
  | succ d ih =>
    intro i k kn hd hi hk hT
    have hjN : i * (v.length + 1) + k < N := by rw [hN]; exact tab_lt hi hk
    have hNb : N ≤ 1002001 := by
      rw [hN]
      exact Nat.mul_le_mul (show u.length + 1 ≤ 1001 by omega) (show v.length + 1 ≤ 1001 by omega)
    have hlcu := lc_le u v i k
    refine ACall.of_body Try.func52 rfl rfl (lb rfl) ?_
    unfold Try.f52
    dsimp only [enumS, Nat.reduceAdd, List.cons_append, List.nil_append]
    refine AW.rgs rfl fun K hK => mv rfl rfl ?_
    refine b_nil (hK _ (AW.to (to_le (s' := ⟨[(0, hI (i : Int)), (1, hI (k : Int)), (2, .fptr [.str u] 0), (3, .fptr [.str v] 0), (4, .ptr 25005 v5 0), (5, .ptr 25006 v6 0)], hTb v5 v14 v6 N u v kn⟩) ⟨leS_get ⟨rfl, rfl, rfl, rfl, rfl, rfl, trivial⟩, fun _ _ h => h⟩ ?_)))
    refine AW.seq ?_
    refine AW.rgs rfl fun K hK => mv rfl rfl (bv rfl (v_loadF ty9 rfl (l_lit rfl rfl)) (bv rfl (v_lenS rfl rfl ty9 rfl) (bv rfl (v_bin rfl rfl b_eql) (mv rfl rfl ?_))))
    by_cases hg : ((i : Int) = (u.length : Int))
    · refine b_F rfl rfl rfl rfl rfl (decide_eq_true hg) ?_
      refine b_F rfl rfl rfl rfl rfl rfl ?_
      refine b_F rfl rfl rfl rfl rfl rfl ?_
      refine b_F rfl rfl rfl rfl rfl rfl ?_
      refine bv rfl (v_pickT rfl rfl rfl) ?_
      refine b_nil (hK _ ?_)
      refine AW.cond rfl (fun hc => ?_) (fun hc => by cases hc)
      refine AW.rgs rfl fun K hK => mv rfl rfl ?_
      refine b_nil (hK _ ?_)
      refine AW.ret ?_
      refine ret_A (hs := [hI 0]) (.inr rfl) (resT rfl rfl) rfl ⟨?_, kn, hT, rfl⟩
      rw [lc_end (.inl (by omega))]
      rfl
    refine b_T rfl rfl rfl rfl (decide_eq_false hg) (o_val rfl (mv_val rfl rfl).2 ?_)
    refine b_T rfl rfl rfl rfl rfl (o_val rfl (v_loadF ty9 rfl (l_lit rfl rfl)) ?_)
    refine b_T rfl rfl rfl rfl rfl (o_val rfl (v_lenS rfl rfl ty9 rfl) ?_)
    refine b_T rfl rfl rfl rfl rfl (o_val rfl (v_bin rfl rfl b_eql) ?_)
    refine bv rfl (v_pickF rfl rfl rfl) ?_
    refine b_nil (hK _ (AW.to (to_le (s' := ⟨[(0, hI (i : Int)), (1, hI (k : Int)), (2, .fptr [.str u] 0), (3, .fptr [.str v] 0), (4, .ptr 25005 v5 0), (5, .ptr 25006 v6 0), (19, .bool (decide ((k : Int) = (v.length : Int))))], hTb v5 v14 v6 N u v kn⟩) ⟨leS_get ⟨rfl, rfl, rfl, rfl, rfl, rfl, rfl, trivial⟩, fun _ _ h => h⟩ ?_)))
    refine AW.cond rfl (fun hc => ?_) (fun hc => ?_)
    · have hc := of_decide_eq_true hc
      refine AW.rgs rfl fun K hK => mv rfl rfl ?_
      refine b_nil (hK _ ?_)
      refine AW.ret ?_
      refine ret_A (hs := [hI 0]) (.inr rfl) (resT rfl rfl) rfl ⟨?_, kn, hT, rfl⟩
      rw [lc_end (.inr (by omega))]
      rfl
    have hc := of_decide_eq_false hc
    have hi' : i < u.length := by omega
    have hk' : k < v.length := by omega
    refine AW.skip ?_
    have e1 : IntKind.wrap .i64 ((v.length : Int) + 1) = ((v.length + 1 : Nat) : Int) := by rw [w64 (by omega) (by omega)]; omega
    have e2 : IntKind.wrap .i64 ((i : Int) * ((v.length + 1 : Nat) : Int)) = ((i * (v.length + 1) : Nat) : Int) := by
      rw [← Int.natCast_mul, w64 (by omega) (by omega)]
    have e3 : IntKind.wrap .i64 (((i * (v.length + 1) : Nat) : Int) + (k : Int)) = ((i * (v.length + 1) + k : Nat) : Int) := by
      rw [← Int.natCast_add, w64 (by omega) (by omega)]
    have hlen : kn.length = N := by rw [hT.len, hN]
    refine AW.rgs rfl fun K hK => bv rfl (v_loadP ty83 rfl rfl (l_lit rfl rfl)) (mv rfl rfl (bv rfl (v_loadF ty9 rfl (l_lit rfl rfl)) (bv rfl (v_lenS rfl rfl ty9 rfl) (bv rfl (v_bin rfl rfl b_add) ?_))))
    rw [e1]
    refine bv rfl (v_bin rfl rfl b_mul) ?_
    rw [e2]
    refine mv rfl rfl (bv rfl (v_bin rfl rfl b_add) ?_)
    rw [e3]
    refine bv rfl (v_idxA ty83 es83 rfl rfl ⟨by omega, by omega⟩ rfl) (mv rfl rfl ?_)
    have hval := hT.val i k hi hk
    generalize hJ : i * (v.length + 1) + k = J at hjN hval
    have hidx : ∀ (l : List Int) (x : Int), l[J]? = some x → idx l (J : Int) = some x := fun l x h => by rw [idx_nat]; exact h
    refine b_nil (hK _ (AW.to (to_le (s' := ⟨[(0, hI (i : Int)), (1, hI (k : Int)), (2, .fptr [.str u] 0), (3, .fptr [.str v] 0), (5, .ptr 25006 v6 0), (9, .ptr 25014 v14 ((J : Int).toNat * 1))], hTb v5 v14 v6 N u v kn⟩) ⟨leS_get ⟨rfl, rfl, rfl, rfl, rfl, rfl, trivial⟩, fun _ _ h => h⟩ ?_)))
    refine AW.seqG (fun s' => ∃ kn', TabInv u v kn' ∧ kn'[J]? = some (1 + (lc u v i k : Int)) ∧ AS.le s' ⟨[(9, .ptr 25014 v14 ((J : Int).toNat * 1))], hTb v5 v14 v6 N u v kn'⟩) ?_ ?_
    · obtain ⟨x0, hx0, hx1⟩ : ∃ x0, kn[J]? = some x0 ∧ (x0 = 0 ∨ x0 = 1 + (lc u v i k : Int)) := by
        rcases hval with h | h
        · exact ⟨_, h, .inl rfl⟩
        · exact ⟨_, h, .inr rfl⟩
      refine AW.rgs rfl fun K hK => mv rfl rfl (bv rfl (v_nilP rfl rfl) (bv rfl (v_loadP ty3 rfl rfl (l_cell eInt (hidx _ _ hx0) (o := 0) rfl rfl)) (bv rfl (v_bin rfl rfl b_eql) ?_)))
      refine b_nil (hK _ (AW.to (to_le (s' := ⟨[(0, hI (i : Int)), (1, hI (k : Int)), (2, .fptr [.str u] 0), (3, .fptr [.str v] 0), (5, .ptr 25006 v6 0), (9, .ptr 25014 v14 ((J : Int).toNat * 1)), (32, .bool (decide (x0 = 0)))], hTb v5 v14 v6 N u v kn⟩) ⟨leS_get ⟨rfl, rfl, rfl, rfl, rfl, rfl, rfl, trivial⟩, fun _ _ h => h⟩ ?_)))
      refine AW.cond rfl (fun hc => ?_) (fun hc => ?_)
      rotate_left
      · have hc := of_decide_eq_false hc
        refine AW.skip ⟨rfl, kn, hT, ?_, leS_get ⟨rfl, trivial⟩, fun _ _ h => h⟩
        rw [hx0, hx1.resolve_left hc]
      have iu : idx u (i : Int) = some u[i] := by rw [idx_nat, List.getElem?_eq_getElem hi']
      have iv : idx v (k : Int) = some v[k] := by rw [idx_nat, List.getElem?_eq_getElem hk']
      have hgo := lc_go hi' hk'
      have w1 : IntKind.wrap .i64 ((i : Int) + 1) = ((i + 1 : Nat) : Int) := by rw [w64 (by omega) (by omega)]; omega
      have w2 : IntKind.wrap .i64 ((k : Int) + 1) = ((k + 1 : Nat) : Int) := by rw [w64 (by omega) (by omega)]; omega
      generalize u[i] = cu at iu hgo
      generalize v[k] = cv at iv hgo
      have hset : ∀ kn' : List Int, TabInv u v kn' → TabInv u v (kn'.set J (1 + (lc u v i k : Int))) ∧ (kn'.set J (1 + (lc u v i k : Int)))[J]? = some (1 + (lc u v i k : Int)) := fun kn' h => by
        refine ⟨hJ ▸ h.set hi hk, ?_⟩
        rw [List.getElem?_set_self (by rw [h.len, ← hN]; exact hjN)]
      refine AW.dgs 7 follows rfl rfl fun K hK => ?_
      refine sv rfl (v_loadF ty9 rfl (l_lit rfl rfl)) ?_
      refine sm rfl rfl ?_
      refine sv rfl (v_idxS ty9 rfl rfl iu) ?_
      refine sv rfl (v_loadF ty9 rfl (l_lit rfl rfl)) ?_
      refine sm rfl rfl ?_
      refine sv rfl (v_idxS ty9 rfl rfl iv) ?_
      refine sv rfl (v_bin rfl rfl b_eql) ?_
      refine s_nil ?_
      refine b_nil (hK _ (AW.to (to_le (s' := ⟨[(0, hI (i : Int)), (1, hI (k : Int)), (5, .ptr 25006 v6 0), (9, .ptr 25014 v14 ((J : Int).toNat * 1)), (39, .bool (decide ((cu.toNat : Int) = (cv.toNat : Int))))], hTb v5 v14 v6 N u v kn⟩) ⟨leS_get ⟨rfl, rfl, rfl, rfl, rfl, trivial⟩, fun _ _ h => h⟩ ?_)))
      refine AW.cond rfl (fun hq => ?_) (fun hq => ?_)
      · have hq := of_decide_eq_true hq
        have hcc : cu = cv := UInt8.toNat_inj.1 (by omega)
        rw [if_pos hcc] at hgo
        have hcall := ih (i + 1) (k + 1) kn (by omega) (by omega) (by omega) hT
        have hl1 := lc_le u v (i + 1) (k + 1)
        refine AW.rg rfl fun K hK => mv rfl rfl (bv rfl (v_loadP ty55 rfl rfl (l_lit rfl rfl)) (mv rfl rfl (bv rfl (v_bin rfl rfl b_add) ?_)))
        rw [w1]
        refine mv rfl rfl (bv rfl (v_bin rfl rfl b_add) ?_)
        rw [w2]
        refine b_op rfl (o_callA rfl rfl rfl rfl (hcall.mono fun r H' he => ?_))
        obtain ⟨rfl, kn', hT', rfl⟩ := he
        refine bv rfl (v_bin rfl rfl b_add) ?_
        have ew : IntKind.wrap .i64 (2 + (lc u v (i + 1) (k + 1) : Int)) = 1 + (lc u v i k : Int) := by rw [w64 (by omega) (by omega)]; omega
        rw [ew]
        refine bv rfl (v_nilP rfl rfl) ?_
        refine b_op rfl (o_storeE eInt (l := kn') (j := (J : Int)) (v := 1 + (lc u v i k : Int)) rfl rfl rfl ty3 rfl rfl rfl ⟨by omega, by rw [hT'.len, ← hN]; omega⟩ ?_)
        obtain ⟨h1, h2⟩ := hset kn' hT'
        refine b_nil (hK _ ⟨rfl, kn'.set J (1 + (lc u v i k : Int)), h1, h2, leS_get ⟨rfl, trivial⟩, leH_get ⟨rfl, rfl, rfl, trivial⟩⟩)
      · have hq := of_decide_eq_false hq
        have hcc : ¬ cu = cv := fun h => hq (by rw [h])
        rw [if_neg hcc] at hgo
        have hl1 := lc_le u v (i + 1) k
        have hl2 := lc_le u v i (k + 1)
        have ew : IntKind.wrap .i64 (1 + max (lc u v (i + 1) k : Int) (lc u v i (k + 1) : Int)) = 1 + (lc u v i k : Int) := by rw [w64 (by omega) (by omega)]; omega
        refine AW.dl follows fun K hK F hFF => ?_
        have hb49 : ∀ p ∈ ([(0, hI (i : Int)), (1, hI (k : Int)), (5, .ptr 25006 v6 0), (9, .ptr 25014 v14 ((J : Int).toNat * 1))] : List (Nat × HV)), p.1 < 49 := by
          intro p hp
          simp only [List.mem_cons, List.not_mem_nil, or_false] at hp
          rcases hp with rfl | rfl | rfl | rfl <;> (dsimp only; omega)
        have hinv := l_inv (F := F) hFF rfl 13 (by decide) rfl (fun L s => InvT 49 13 [(0, hI (i : Int)), (1, hI (k : Int)), (5, .ptr 25006 v6 0), (9, .ptr 25014 v14 ((J : Int).toNat * 1))] (valT v14 v5 v6 ((J : Int).toNat * 1) u v i k) (fun H => ∃ kn', TabInv u v kn' ∧ H = hTb v5 v14 v6 N u v kn') L s) ?_ ?_ 13 [] ⟨[(0, hI (i : Int)), (1, hI (k : Int)), (5, .ptr 25006 v6 0), (9, .ptr 25014 v14 ((J : Int).toNat * 1))], hTb v5 v14 v6 N u v kn⟩ ⟨?_, (fun k hk => by cases hk), kn, hT, rfl⟩ (fun k hk => by cases hk) List.nodup_nil rfl
        · refine l_go (L' := []) hFF rfl hinv ⟨leS_get ⟨rfl, rfl, rfl, rfl, trivial⟩, fun _ _ h => h⟩
        · rintro L ⟨sl, H⟩ q hIv hq13 hqL hdeps
          obtain ⟨kn1, hT1, hH⟩ := hIv.heap
          have hH : H = hTb v5 v14 v6 N u v kn1 := hH
          subst hH
          have same : ∃ kn', TabInv u v kn' ∧ hTb v5 v14 v6 N u v kn1 = hTb v5 v14 v6 N u v kn' := ⟨kn1, hT1, rfl⟩
          have h0 : sget sl 0 = some (hI (i : Int)) := hIv.base (0, _) (by simp)
          have h1 : sget sl 1 = some (hI (k : Int)) := hIv.base (1, _) (by simp)
          have h5 : sget sl 5 = some (HV.ptr 25006 v6 0) := hIv.base (5, _) (by simp)
          have h9 : sget sl 9 = some (HV.ptr 25014 v14 ((J : Int).toNat * 1)) := hIv.base (9, _) (by simp)
          have val := hIv.val
          match q, hq13 with
          | 0, _ => exact l_op rfl rfl rfl (o_val rfl (mv_val rfl (show (⟨sl, _⟩ : AS).ev (.tmp 9) = _ from h9)).2 (b_nil (hIv.put hb49 rfl same)))
          | 1, _ => exact l_op rfl rfl rfl (o_val rfl (v_loadP ty55 h5 rfl (l_lit rfl rfl)) (b_nil (hIv.put hb49 rfl same)))
          | 2, _ => exact l_op rfl rfl rfl (o_val rfl (mv_val rfl (show (⟨sl, _⟩ : AS).ev (.tmp 0) = _ from h0)).2 (b_nil (hIv.put hb49 rfl same)))
          | 3, _ =>
            have q2 := val 2 (hdeps 2 (by decide)) (by decide)
            exact l_op rfl rfl rfl (o_val rfl (v_bin q2 rfl b_add) (b_nil (hIv.put hb49 (by rw [w1]; rfl) same)))
          | 4, _ => exact l_op rfl rfl rfl (o_val rfl (mv_val rfl (show (⟨sl, _⟩ : AS).ev (.tmp 1) = _ from h1)).2 (b_nil (hIv.put hb49 rfl same)))
          | 5, _ =>
            have q1 : (⟨sl, hTb v5 v14 v6 N u v kn1⟩ : AS).ev (.tmp 50) = some (tfn v5 v6 u v) := val 1 (hdeps 1 (by decide)) (by decide)
            have q3 : (⟨sl, hTb v5 v14 v6 N u v kn1⟩ : AS).ev (.tmp 52) = some (hI ((i + 1 : Nat) : Int)) := val 3 (hdeps 3 (by decide)) (by decide)
            have q4 : (⟨sl, hTb v5 v14 v6 N u v kn1⟩ : AS).ev (.tmp 53) = some (hI (k : Int)) := val 4 (hdeps 4 (by decide)) (by decide)
            refine l_op rfl rfl rfl (o_callA (hs := [hI ((i + 1 : Nat) : Int), hI (k : Int)]) rfl q1 (by simp only [List.mapM_cons, List.mapM_nil, q3, q4]; rfl) rfl ((ih (i + 1) k kn1 (by omega) (by omega) hk hT1).mono fun r H' he => ?_))
            obtain ⟨rfl, kn2, hT2, rfl⟩ := he
            exact b_nil (hIv.put hb49 rfl ⟨kn2, hT2, rfl⟩)
          | 6, _ => exact l_op rfl rfl rfl (o_val rfl (v_loadP ty55 h5 rfl (l_lit rfl rfl)) (b_nil (hIv.put hb49 rfl same)))
          | 7, _ => exact l_op rfl rfl rfl (o_val rfl (mv_val rfl (show (⟨sl, _⟩ : AS).ev (.tmp 0) = _ from h0)).2 (b_nil (hIv.put hb49 rfl same)))
          | 8, _ => exact l_op rfl rfl rfl (o_val rfl (mv_val rfl (show (⟨sl, _⟩ : AS).ev (.tmp 1) = _ from h1)).2 (b_nil (hIv.put hb49 rfl same)))
          | 9, _ =>
            have q2 := val 8 (hdeps 8 (by decide)) (by decide)
            exact l_op rfl rfl rfl (o_val rfl (v_bin q2 rfl b_add) (b_nil (hIv.put hb49 (by rw [w2]; rfl) same)))
          | 10, _ =>
            have q1 : (⟨sl, hTb v5 v14 v6 N u v kn1⟩ : AS).ev (.tmp 55) = some (tfn v5 v6 u v) := val 6 (hdeps 6 (by decide)) (by decide)
            have q3 : (⟨sl, hTb v5 v14 v6 N u v kn1⟩ : AS).ev (.tmp 56) = some (hI (i : Int)) := val 7 (hdeps 7 (by decide)) (by decide)
            have q4 : (⟨sl, hTb v5 v14 v6 N u v kn1⟩ : AS).ev (.tmp 58) = some (hI ((k + 1 : Nat) : Int)) := val 9 (hdeps 9 (by decide)) (by decide)
            refine l_op rfl rfl rfl (o_callA (hs := [hI (i : Int), hI ((k + 1 : Nat) : Int)]) rfl q1 (by simp only [List.mapM_cons, List.mapM_nil, q3, q4]; rfl) rfl ((ih i (k + 1) kn1 (by omega) hi (by omega) hT1).mono fun r H' he => ?_))
            obtain ⟨rfl, kn2, hT2, rfl⟩ := he
            exact b_nil (hIv.put hb49 rfl ⟨kn2, hT2, rfl⟩)
          | 11, _ =>
            have q5 := val 5 (hdeps 5 (by decide)) (by decide)
            have q6 := val 10 (hdeps 10 (by decide)) (by decide)
            exact l_op rfl rfl rfl (o_val rfl (v_max rfl q5 q6) (b_nil (hIv.put hb49 rfl same)))
          | 12, _ =>
            have q5 := val 11 (hdeps 11 (by decide)) (by decide)
            exact l_op rfl rfl rfl (o_val rfl (v_bin rfl q5 b_add) (b_nil (hIv.put hb49 rfl same)))
          | n + 13, h => exact absurd h (by omega)
        · rintro L ⟨sl, H⟩ hIv hall
          have hin : ∀ q, q < 13 → q ∈ L := fun q hq => (hall q).1 hq
          obtain ⟨kn1, hT1, hH⟩ := hIv.heap
          have hH : H = hTb v5 v14 v6 N u v kn1 := hH
          subst hH
          have g0 : sget sl 49 = some (HV.ptr 25014 v14 ((J : Int).toNat * 1)) := hIv.val 0 (hin 0 (by decide)) (by decide)
          have g12 : sget sl 61 = some (hI (IntKind.wrap .i64 (1 + max (lc u v (i + 1) k : Int) (lc u v i (k + 1) : Int)))) := hIv.val 12 (hin 12 (by decide)) (by decide)
          have g9 : sget sl 9 = some (HV.ptr 25014 v14 ((J : Int).toNat * 1)) := hIv.base (9, _) (by simp)
          rw [ew] at g12
          refine l_go (L' := List.range 13) (s' := ⟨[(9, .ptr 25014 v14 ((J : Int).toNat * 1)), (49, .ptr 25014 v14 ((J : Int).toNat * 1)), (61, hI (1 + (lc u v i k : Int)))], hTb v5 v14 v6 N u v kn1⟩) hFF (all_range hall) ?_ ⟨leS_get ⟨g9, g0, g12, trivial⟩, fun _ _ h => h⟩
          refine l_step hFF rfl [13] rfl rfl ⟨?_, trivial⟩
          refine l_op rfl rfl rfl (o_val rfl (v_nilP rfl rfl) (b_nil ?_))
          refine l_step hFF rfl [14] rfl rfl ⟨?_, trivial⟩
          obtain ⟨h1, h2⟩ := hset kn1 hT1
          refine l_op rfl rfl rfl (o_storeE eInt (l := kn1) (j := (J : Int)) (v := 1 + (lc u v i k : Int)) rfl rfl rfl ty3 rfl rfl rfl ⟨by omega, by rw [hT1.len, ← hN]; omega⟩ (b_nil ?_))
          exact l_done hFF rfl rfl (hK _ ⟨rfl, kn1.set J (1 + (lc u v i k : Int)), h1, h2, leS_get ⟨rfl, trivial⟩, leH_get ⟨rfl, rfl, rfl, trivial⟩⟩)
        · intro p hp
          simp only [List.mem_cons, List.not_mem_nil, or_false] at hp
          rcases hp with rfl | rfl | rfl | rfl <;> rfl
    · rintro s' ⟨kn', hT', hx, hle⟩
      refine AW.to (to_le hle ?_)
      refine AW.rgs rfl fun K hK => mv rfl rfl (bv rfl (v_nilP rfl rfl) (bv rfl (v_loadP ty3 rfl rfl (l_cell eInt (hidx _ _ hx) (o := 0) rfl rfl)) (bv rfl (v_bin rfl rfl b_sub) ?_)))
      have ew : IntKind.wrap .i64 (1 + (lc u v i k : Int) - 1) = (lc u v i k : Int) := by rw [w64 (by omega) (by omega)]; omega
      rw [ew]
      refine mv rfl rfl ?_
      refine b_nil (hK _ ?_)
      refine AW.ret ?_
      exact ret_A (hs := [hI (lc u v i k : Int)]) (.inr rfl) (resT rfl rfl) rfl ⟨rfl, kn', hT', rfl⟩
set_option maxRecDepth 100000 in
theorem table_call (hu : u.length ≤ 1000) (hv : v.length ≤ 1000) : ACall Try.prog 25 [.str u, .str v] [] (fun r H' => ∃ v5 v14 v6, r = tfn v5 v6 u v ∧ ∀ id x, hget (hTb v5 v14 v6 ((u.length + 1) * (v.length + 1)) u v (List.replicate ((u.length + 1) * (v.length + 1)) 0)) id = some x → hget H' id = some x) := by
  have hNb : (u.length + 1) * (v.length + 1) ≤ 1002001 := Nat.mul_le_mul (show u.length + 1 ≤ 1001 by omega) (show v.length + 1 ≤ 1001 by omega)
  refine ACall.of_body Try.func25 rfl rfl (lb rfl) ?_
  unfold Try.f25
  dsimp only [enumS, Nat.reduceAdd]
  refine AW.rgs rfl fun K hK => b_op rfl (o_box rfl rfl rfl ?_)
  refine b_op rfl (o_box rfl rfl rfl ?_)
  refine mv rfl rfl ?_
  refine b_nil (hK _ (AW.to (to_le (s' := ⟨[(2, .fptr [.str u] 0), (3, .fptr [.str v] 0)], []⟩) ⟨leS_get ⟨rfl, rfl, trivial⟩, fun _ _ h => h⟩ ?_)))
  have e1 : IntKind.wrap .i64 ((u.length : Int) + 1) = ((u.length + 1 : Nat) : Int) := by rw [w64 (by omega) (by omega)]; omega
  have e2 : IntKind.wrap .i64 ((v.length : Int) + 1) = ((v.length + 1 : Nat) : Int) := by rw [w64 (by omega) (by omega)]; omega
  have e3 : IntKind.wrap .i64 (((u.length + 1 : Nat) : Int) * ((v.length + 1 : Nat) : Int)) = (((u.length + 1) * (v.length + 1) : Nat) : Int) := by
    rw [← Int.natCast_mul, w64 (by omega) (by omega)]
  refine AW.rgs rfl fun K hK => bv rfl (v_loadF ty9 rfl (l_lit rfl rfl)) (bv rfl (v_lenS rfl rfl ty9 rfl) (bv rfl (v_bin rfl rfl b_add) ?_))
  rw [e1]
  refine bv rfl (v_loadF ty9 rfl (l_lit rfl rfl)) (bv rfl (v_lenS rfl rfl ty9 rfl) (bv rfl (v_bin rfl rfl b_add) ?_))
  rw [e2]
  refine bv rfl (v_bin rfl rfl b_mul) ?_
  rw [e3]
  generalize hNN : (u.length + 1) * (v.length + 1) = N at hNb
  refine b_op rfl (o_makeE (fid := 25) eInt (0 : Int) 25014 rfl rfl ty83 rfl rfl ty3 rfl rfl (show 0 ≤ (N : Int) ∧ (N : Int) ≤ (N : Int) ∧ (N : Int) * ((8 : Nat) : Int) ≤ 281474976710656 by omega) (fun v14 => ?_))
  refine b_op rfl (o_alloc (fid := 25) (zs := [.v (.slice none 0 0)]) 25005 rfl rfl ty83 rfl (fun v5 => ?_))
  refine b_op rfl (o_store (cs := [.ar 25014 v14 1 0 (List.replicate (N : Int).toNat (0 : Int)).length]) (zs := [.ar 25014 v14 1 0 (List.replicate (N : Int).toNat (0 : Int)).length]) rfl rfl rfl ty83 rfl rfl rfl rfl rfl ?_)
  simp only [Int.toNat_natCast, List.length_replicate]
  refine b_nil (hK _ (AW.to (to_le (s' := ⟨[(2, .fptr [.str u] 0), (3, .fptr [.str v] 0), (5, .ptr 25005 v5 0)], [(25005, v5, .arr 1 83 [.ar 25014 v14 1 0 N]), (25014, v14, .arr 1 3 (eInt.E (List.replicate N (0 : Int))))]⟩) ⟨leS_get ⟨rfl, rfl, rfl, trivial⟩, leH_get ⟨rfl, rfl, trivial⟩⟩ ?_)))
  refine AW.rgs rfl fun K hK => b_op rfl (o_alloc (fid := 25) (zs := [.v .nilFunc]) 25006 rfl rfl ty55 rfl (fun v6 => ?_))
  refine b_nil (hK _ ?_)
  refine AW.rgs rfl fun K hK => bv rfl (v_func rfl rfl) ?_
  refine b_op rfl (o_store (cs := [tfn v5 v6 u v]) (zs := [tfn v5 v6 u v]) rfl rfl rfl ty55 rfl rfl rfl rfl rfl ?_)
  refine b_nil (hK _ ?_)
  refine AW.rgs rfl fun K hK => bv rfl (v_loadP ty55 rfl rfl (l_lit rfl rfl)) (mv rfl rfl ?_)
  refine b_nil (hK _ ?_)
  refine AW.ret ?_
  exact ret_A (hs := [tfn v5 v6 u v]) (.inr rfl) (resT rfl rfl) rfl ⟨v5, v14, v6, rfl, by rw [hNN]; exact leH_get ⟨rfl, rfl, rfl, trivial⟩⟩
end
end Go.AW
namespace Go.AW
def delW (w : List UInt8) (i : Nat) : List UInt8 := w.take i ++ w.drop (i + 1)
def delS (w : List UInt8) (m : List (List UInt8 × Bool)) (i : Nat) : List (List UInt8 × Bool) := if i = 0 ∨ ¬ w.getD i 0 = w.getD (i - 1) 0 then mputN (delW w i) true m else m
def delM (w : List UInt8) : Nat → List (List UInt8 × Bool)
 | 0 => []
 | n + 1 => delS w (delM w n) n
theorem mputN_keys {k : List UInt8} {v : Bool} : ∀ {l : List (List UInt8 × Bool)}, (l.map (·.1)).Nodup → ((mputN k v l).map (·.1)).Nodup ∧ (∀ q, q ∈ (mputN k v l).map (·.1) → q = k ∨ q ∈ l.map (·.1)) ∧ (mputN k v l).length ≤ l.length + 1
 | [], _ => ⟨by simp [mputN], fun q hq => .inl (by simpa [mputN] using hq), by simp [mputN]⟩
 | (q, x) :: l, h => by
  obtain ⟨h1, h2⟩ := List.nodup_cons.1 h
  unfold mputN
  by_cases e : k = q
  ·rw [if_pos e]
   exact ⟨h, fun p hp => .inr hp, by simp⟩
  ·rw [if_neg e]
   obtain ⟨i1, i2, i3⟩ := mputN_keys (k := k) (v := v) h2
   refine ⟨List.nodup_cons.2 ⟨fun hq => ?_, i1⟩, fun p hp => ?_, by simp only [List.length_cons]; omega⟩
   ·rcases i2 _ hq with h | h
    ·exact e h.symm
    ·exact h1 h
   ·rcases List.mem_cons.1 hp with rfl | hp
    ·exact .inr (List.mem_cons_self ..)
    ·rcases i2 _ hp with h | h
     ·exact .inl h
     ·exact .inr (List.mem_cons_of_mem _ h)
theorem delM_nodup (w : List UInt8) : ∀ n, ((delM w n).map (·.1)).Nodup
 | 0 => List.nodup_nil
 | n + 1 => by
  show ((delS w (delM w n) n).map (·.1)).Nodup
  unfold delS
  split
  ·exact (mputN_keys (delM_nodup w n)).1
  ·exact delM_nodup w n
theorem delM_len (w : List UInt8) : ∀ n, (delM w n).length ≤ n
 | 0 => Nat.le_refl _
 | n + 1 => by
  show (delS w (delM w n) n).length ≤ _
  have := delM_len w n
  unfold delS
  split
  ·have := (mputN_keys (k := delW w n) (v := true) (delM_nodup w n)).2.2
   omega
  ·omega
noncomputable def m_indel_del (w : List UInt8) : Option (List (List UInt8)) := if w.length ≤ 1000 then some (sortS ((delM w w.length).map (·.1))) else none
theorem indel_del {w : List UInt8} {l : List (List UInt8)} (h : m_indel_del w = some l) : w.length ≤ 1000 ∧ l = sortS ((delM w w.length).map (·.1)) := by
 unfold m_indel_del at h
 split at h
 ·rename_i hl
  exact ⟨hl, (Option.some.inj h).symm⟩
 ·cases h
def m_indel_tab (u v : List UInt8) : Option Int := if u.length ≤ 1000 ∧ v.length ≤ 1000 then some (lcs u v : Int) else none
theorem indel_tab {u v : List UInt8} {x : Int} (h : m_indel_tab u v = some x) : u.length ≤ 1000 ∧ v.length ≤ 1000 ∧ (lcs u v : Int) = x := by
 unfold m_indel_tab at h
 split at h
 ·rename_i hl
  exact ⟨hl.1, hl.2, Option.some.inj h⟩
 ·cases h
end Go.AW
namespace Go.AW
open Go Go.Proofs
set_option linter.unusedVariables false
abbrev hMp (ver : Nat) (m : List (List UInt8 × Bool)) : Heap := [(9012, ver, .map (entE HV.bool m))]
set_option maxHeartbeats 4000000 in
set_option maxRecDepth 100000 in
theorem shorter_call {ver : Nat} {w : List UInt8} (hl : w.length ≤ 1000) : ACall Try.prog 29 [HV.str w, HV.mp 9012 ver] (hMp ver []) (fun r H' => r = HV.tup [] ∧ H' = hMp ver (delM w w.length)) := by
 refine ACall.of_body Try.func29 rfl rfl (Nat.le_of_ble_eq_true rfl) ?_
 unfold Try.f29
 dsimp only [enumS, Nat.reduceAdd]
 refine AW.rgs rfl fun K hK => ?_
 refine mv rfl rfl ?_
 refine bv rfl (v_lenS rfl rfl ty9 rfl) ?_
 refine mv rfl rfl ?_
 refine b_nil (hK _ (AW.to (to_le (s' := ⟨[(0, HV.str w), (1, HV.mp 9012 ver), (6, HV.int .i64 (w.length : Int)), (7, HV.int .i64 0)], hMp ver (delM w 0)⟩) ⟨leS_get ⟨rfl, rfl, rfl, rfl, trivial⟩, fun _ _ h => h⟩ ?_)))
 clear hK K
 refine AW.block ?_
 refine AW.loopS (fun i : Nat => ⟨[(0, HV.str w), (1, HV.mp 9012 ver), (6, HV.int .i64 (w.length : Int)), (7, HV.int .i64 (i : Int))], hMp ver (delM w i)⟩) (fun i => i ≤ w.length) (fun i => w.length - i) 0 (AS.le_refl _) (Nat.zero_le _) ?_
 intro i hi
 have hnxt : IntKind.wrap .i64 ((i : Int) + 1) = ((i + 1 : Nat) : Int) := by rw [w64 (by omega) (by omega)]; omega
 refine AW.rgs rfl fun K hK => ?_
 refine bv rfl (v_bin rfl rfl b_lss) ?_
 refine b_nil (hK _ (AW.to (to_le (s' := ⟨[(0, HV.str w), (1, HV.mp 9012 ver), (6, HV.int .i64 (w.length : Int)), (7, HV.int .i64 (i : Int)), (8, HV.bool (decide ((i : Int) < (w.length : Int))))], hMp ver (delM w i)⟩) ⟨leS_get ⟨rfl, rfl, rfl, rfl, rfl, trivial⟩, fun _ _ h => h⟩ ?_)))
 clear hK K
 refine AW.cseq rfl (fun hc => ?_) (fun hc => ?_)
 ·have hc := of_decide_eq_true hc
  have hil : i < w.length := by omega
  refine AW.skip ?_
  refine AW.seqG (fun s' => AS.le s' ⟨[(0, HV.str w), (1, HV.mp 9012 ver), (6, HV.int .i64 (w.length : Int)), (7, HV.int .i64 (i : Int))], hMp ver (delM w (i + 1))⟩) (AW.block ?_) ?_
  ·refine AW.rgs rfl fun K hK => ?_
   refine mv rfl rfl ?_
   refine mv rfl rfl ?_
   refine b_nil (hK _ (AW.to (to_le (s' := ⟨[(0, HV.str w), (1, HV.mp 9012 ver), (4, HV.int .i64 (i : Int)), (6, HV.int .i64 (w.length : Int)), (7, HV.int .i64 (i : Int))], hMp ver (delM w i)⟩) ⟨leS_get ⟨rfl, rfl, rfl, rfl, rfl, trivial⟩, fun _ _ h => h⟩ ?_)))
   clear hK K
   have put : (i = 0 ∨ ¬ w.getD i 0 = w.getD (i - 1) 0) → delM w (i + 1) = mputN (delW w i) true (delM w i) := fun h => by
    show delS w (delM w i) i = _
    unfold delS
    rw [if_pos h]
   have keep : ¬ (i = 0 ∨ ¬ w.getD i 0 = w.getD (i - 1) 0) → delM w (i + 1) = delM w i := fun h => by
    show delS w (delM w i) i = _
    unfold delS
    rw [if_neg h]
   refine AW.dgs 12 follows rfl rfl fun K hK => ?_
   refine sm rfl rfl ?_
   refine sv rfl (v_bin rfl rfl b_eql) ?_
   refine sm rfl rfl ?_
   have last : ∀ b : Bool, (b = true ↔ (i = 0 ∨ ¬ w.getD i 0 = w.getD (i - 1) 0)) → K ⟨[(0, HV.str w), (1, HV.mp 9012 ver), (4, HV.int .i64 (i : Int)), (6, HV.int .i64 (w.length : Int)), (7, HV.int .i64 (i : Int)), (21, HV.bool b)], hMp ver (delM w i)⟩ := by
    intro b hb
    refine hK _ ?_
    clear hK K
    refine AW.cond rfl (fun hc => ?_) (fun hc => ?_)
    ·have hp := put (hb.1 hc)
     have h1 : 0 ≤ (0 : Int) ∧ (0 : Int) ≤ (i : Int) ∧ (i : Int) ≤ (w.length : Int) := by omega
     have h2 : 0 ≤ ((i + 1 : Nat) : Int) ∧ ((i + 1 : Nat) : Int) ≤ (w.length : Int) ∧ (w.length : Int) ≤ (w.length : Int) := by omega
     refine AW.dg 9 follows rfl rfl fun K hK => ?_
     refine sm rfl rfl ?_
     refine sm rfl rfl ?_
     refine sm rfl rfl ?_
     refine sv rfl (v_sliceS ty9 rfl rfl rfl h1) ?_
     refine sm rfl rfl ?_
     refine sm rfl rfl ?_
     refine sv rfl (v_bin rfl rfl b_add) ?_
     rw [hnxt]
     refine sv rfl (v_sliceS ty9 rfl rfl rfl h2) ?_
     have e1 : (w.take (i : Int).toNat).drop (0 : Int).toNat = w.take i := by rw [Int.toNat_natCast]; rfl
     have e2 : (w.take (w.length : Int).toNat).drop ((i + 1 : Nat) : Int).toNat = w.drop (i + 1) := by rw [Int.toNat_natCast, Int.toNat_natCast, List.take_length]
     rw [e1, e2]
     refine sv rfl (v_bin rfl rfl (b_sadd (by simp only [List.length_take, List.length_drop, maxLen]; omega))) ?_
     refine s_nil ?_
     refine b_op rfl (o_mapSet HV.bool (k := delW w i) (v := true) (es := delM w i) (.inl rfl) ty66 ty9 rfl rfl rfl rfl (by simp only [noIter] <;> first | trivial | rfl | decide) ?_)
     refine b_nil (hK _ ⟨rfl, ?_⟩)
     rw [hp]
     exact ⟨leS_get ⟨rfl, rfl, rfl, rfl, trivial⟩, leH_get ⟨rfl, trivial⟩⟩
    ·have hk := keep (fun h => by rw [hb.2 h] at hc; cases hc)
     refine AW.skip ⟨rfl, ?_⟩
     rw [hk]
     exact ⟨leS_get ⟨rfl, rfl, rfl, rfl, trivial⟩, fun _ _ h => h⟩
   by_cases hg : (i : Int) = 0
   ·refine s_F rfl rfl rfl rfl rfl (decide_eq_true hg) ?_
    refine s_F rfl rfl rfl rfl rfl rfl ?_
    refine s_F rfl rfl rfl rfl rfl rfl ?_
    refine s_F rfl rfl rfl rfl rfl rfl ?_
    refine s_F rfl rfl rfl rfl rfl rfl ?_
    refine s_F rfl rfl rfl rfl rfl rfl ?_
    refine s_F rfl rfl rfl rfl rfl rfl ?_
    refine s_F rfl rfl rfl rfl rfl rfl ?_
    refine sv rfl (v_pickT rfl rfl rfl) ?_
    refine s_nil ?_
    refine bops_le (s' := ⟨[(0, HV.str w), (1, HV.mp 9012 ver), (4, HV.int .i64 (i : Int)), (6, HV.int .i64 (w.length : Int)), (7, HV.int .i64 (i : Int)), (21, HV.bool true)], hMp ver (delM w i)⟩) ⟨leS_get ⟨rfl, rfl, rfl, rfl, rfl, rfl, trivial⟩, fun _ _ h => h⟩ ?_
    exact b_nil (last true ⟨fun _ => .inl (by omega), fun _ => rfl⟩)
   ·have h1 : idx w (i : Int) = some (w.getD i 0) := by rw [idx_nat, List.getD_eq_getElem?_getD, List.getElem?_eq_getElem hil]; rfl
    have hp1 : IntKind.wrap .i64 ((i : Int) - 1) = ((i - 1 : Nat) : Int) := by rw [w64 (by omega) (by omega)]; omega
    have h2 : idx w ((i - 1 : Nat) : Int) = some (w.getD (i - 1) 0) := by rw [idx_nat, List.getD_eq_getElem?_getD, List.getElem?_eq_getElem (by omega)]; rfl
    refine s_T rfl rfl rfl rfl rfl (decide_eq_false hg) (ops_val rfl (mv_val rfl rfl).2 ?_)
    refine s_T rfl rfl rfl rfl rfl rfl (ops_val rfl (mv_val rfl rfl).2 ?_)
    refine s_T rfl rfl rfl rfl rfl rfl (ops_val rfl (v_idxS ty9 rfl rfl h1) ?_)
    refine s_T rfl rfl rfl rfl rfl rfl (ops_val rfl (mv_val rfl rfl).2 ?_)
    refine s_T rfl rfl rfl rfl rfl rfl (ops_val rfl (mv_val rfl rfl).2 ?_)
    refine s_T rfl rfl rfl rfl rfl rfl (ops_val rfl (v_bin rfl rfl b_sub) ?_)
    rw [hp1]
    refine s_T rfl rfl rfl rfl rfl rfl (ops_val rfl (v_idxS ty9 rfl rfl h2) ?_)
    refine s_T rfl rfl rfl rfl rfl rfl (ops_val rfl (v_bin rfl rfl b_neq) ?_)
    refine sv rfl (v_pickF rfl rfl rfl) ?_
    refine s_nil ?_
    refine bops_le (s' := ⟨[(0, HV.str w), (1, HV.mp 9012 ver), (4, HV.int .i64 (i : Int)), (6, HV.int .i64 (w.length : Int)), (7, HV.int .i64 (i : Int)), (21, HV.bool (decide (((w.getD i 0).toNat : Int) ≠ ((w.getD (i - 1) 0).toNat : Int))))], hMp ver (delM w i)⟩) ⟨leS_get ⟨rfl, rfl, rfl, rfl, rfl, rfl, trivial⟩, fun _ _ h => h⟩ ?_
    refine b_nil (last _ ?_)
    rw [decide_eq_true_iff]
    constructor
    ·exact fun h => .inr fun e => h (by rw [e])
    ·rintro (h | h)
     ·omega
     ·exact fun e => h (UInt8.toNat_inj.1 (by omega))
  ·intro s' hle
   refine AW.to (to_le hle ?_)
   refine AW.rg rfl fun K hK => ?_
   refine bv rfl (v_bin rfl rfl b_add) ?_
   rw [hnxt]
   refine mv rfl rfl ?_
   refine b_nil (hK _ ?_)
   exact ⟨i + 1, by omega, by omega, ⟨leS_get ⟨rfl, rfl, rfl, rfl, trivial⟩, fun _ _ h => h⟩⟩
 ·have hc := of_decide_eq_false hc
  have hie : i = w.length := by omega
  subst hie
  refine AW.exit ?_
  exact ret_A (hs := []) (.inl rfl) (res0 rfl) rfl ⟨rfl, rfl⟩
end Go.AW
namespace Go.AW
open Go
def letters : List UInt8 := [48, 49, 50, 51, 52, 53, 54, 55, 56, 57, 97, 98, 99, 100, 101, 102]
section
variable {stp : List Int → UInt8 → List Int} {cs : List UInt8} {set : List Int}
end
end Go.AW
namespace Go.AW
open Go Go.Proofs
theorem fw79_0 : fieldOf Try.prog 79 0 = some (0, { desc := TypeDesc.int .i64, size := 1, bytes := 8, zero := Value.int .i64 0 }) := by kernel_rfl
theorem fw79_1 : fieldOf Try.prog 79 1 = some (1, { desc := TypeDesc.int .i64, size := 1, bytes := 8, zero := Value.int .i64 0 }) := by kernel_rfl
theorem fw79_2 : fieldOf Try.prog 79 2 = some (2, { desc := TypeDesc.slice 76, size := 1, bytes := 24, zero := Value.slice none 0 0 }) := by kernel_rfl
theorem fw76_0 : fieldOf Try.prog 76 0 = some (0, { desc := TypeDesc.int .i64, size := 1, bytes := 8, zero := Value.int .i64 0 }) := by kernel_rfl
theorem fw76_1 : fieldOf Try.prog 76 1 = some (1, { desc := TypeDesc.int .i64, size := 1, bytes := 8, zero := Value.int .i64 0 }) := by kernel_rfl
theorem fw76_2 : fieldOf Try.prog 76 2 = some (2, { desc := TypeDesc.int .i64, size := 1, bytes := 8, zero := Value.int .i64 0 }) := by kernel_rfl
attribute [go_sem high] fw79_0 fw79_1 fw79_2 fw76_0 fw76_1 fw76_2
theorem hget_0 {id v : Nat} {o : AObj} {H : Heap} : hget ((id, v, o) :: H) id = some (v, o) := by simp [hget]
set_option linter.unusedSimpArgs false
theorem pick_key {vis rest ks : List (List UInt8)} {k : List UInt8} (hp : (vis ++ rest).Perm ks) (hm : k ∈ ks) (hk : k ∉ vis) : ∃ l1 l2, rest = l1 ++ k :: l2 ∧ ((k :: vis) ++ (l1 ++ l2)).Perm ks := by
 have hx : k ∈ rest := (List.mem_append.1 (hp.mem_iff.2 hm)).resolve_left hk
 obtain ⟨l1, l2, rfl⟩ := List.append_of_mem hx
 refine ⟨l1, l2, rfl, List.Perm.trans ?_ hp⟩
 have e1 : (k :: vis) ++ (l1 ++ l2) = k :: ((vis ++ l1) ++ l2) := by simp
 have e2 : vis ++ (l1 ++ k :: l2) = (vis ++ l1) ++ k :: l2 := by simp
 rw [e1, e2]
 exact List.perm_middle.symm
theorem no_rest {vis rest ks : List (List UInt8)} (hn : ks.Nodup) (hp : (vis ++ rest).Perm ks) (hall : ∀ k ∈ ks, k ∈ vis) : rest = [] := by
 cases rest with
 | nil => rfl
 | cons x rest =>
  have h1 := hp.nodup_iff.2 hn
  have hx : x ∈ vis := hall x (hp.mem_iff.1 (by simp))
  exact absurd rfl ((List.nodup_append.1 h1).2.2 x hx x (List.mem_cons_self ..))
theorem AW.rangeFuncL {P : Program} {N : Nat} {s : AS} {Q : Exit → AS → Prop} {g : Operand} {ps : Array Tmp} {assign body : Code} {f : FuncId} {fs cs : List HV} (id : Nat) (hg : s.ev g = some (.fn (.func f) fs cs))
  (h : ∀ fn ver (L : LoopState → Option Code → AObj), (∀ st pend, L st pend = .loop st pend fn N s.slots ps assign body) → ACall P f (fs ++ [.yl id ver] ++ cs) (hset s.heap id ver (L .ready none)) fun _ H' =>
   ∃ st pend, hget H' id = some (ver, L st pend) ∧ st ≠ .busy ∧ match pend with
    | none => Q .normal { s with heap := hset H' id ver (L .exhausted none) }
    | some c => AW P none N c Q { s with heap := hset H' id ver (L .exhausted (some c)) }) :
  AW P none N (.rangeFunc g ps assign body) Q s :=
 AW.rangeFunc id hg fun fn ver => h fn ver (fun st pend => .loop st pend fn N s.slots ps assign body) fun _ _ => rfl
def nilS : HV := .v (.slice none 0 0)
theorem w127b {f mid mver lid lver : Nat} {es : List (List UInt8 × HV)} {H : Heap} {K : HV → Heap → Prop} (hn : (es.map (·.1)).Nodup) (hne : f * 1000 + 5 ≠ mid) (hm : hget H mid = some (mver, .map es)) (J : Nat → List (List UInt8) → Heap → Prop)
  (hJm : ∀ iv vis H, J iv vis H → hget H mid = some (mver, .map es)) (hJi : ∀ iv vis H, J iv vis H → ∃ cur, hget H (f * 1000 + 5) = some (iv, .iter mid mver vis cur))
  (h0 : ∀ iv, J iv [] (hset H (f * 1000 + 5) iv (.iter mid mver [] false)))
  (hstep : ∀ iv vis k H, J iv vis H → k ∈ es.map (·.1) → k ∉ vis → vis.length < es.length → YCall Try.prog lid lver [.str k] (hset H (f * 1000 + 5) iv (.iter mid mver (k :: vis) true)) fun r H' => r = .bool true ∧ J iv (k :: vis) H')
  (hdone : ∀ iv vis H, J iv vis H → vis.Perm (es.map (·.1)) → K (.tup []) H) : ACall Try.prog 59 [.yl lid lver, .fptr [.mp mid mver] 0] H K := by
 refine ACall.of_body Try.func59 rfl rfl (Nat.le_of_ble_eq_true rfl) ?_
 unfold Try.f59
 dsimp only [enumS, Nat.reduceAdd]
 refine AW.rseq (fid := f) (mt := []) [0, 5] rfl fun K1 hK1 => ?_
 simp only [go_sem, reduceIte, Nat.reduceEqDiff, Int.reduceLE, List.getElem?_cons_zero, hm]
 refine ⟨hne, fun iv => hK1 _ ?_⟩
 clear hK1 K1
 refine AW.block ?_
 refine AW.loopS (fun p : List (List UInt8) × List (List UInt8) × Heap => ⟨[(0, .yl lid lver), (5, .it (f * 1000 + 5) iv)], p.2.2⟩) (fun p => (p.1 ++ p.2.1).Perm (es.map (·.1)) ∧ J iv p.1 p.2.2) (fun p => p.2.1.length) ([], es.map (·.1), _)
  (AS.le_refl _) ⟨List.Perm.refl _, h0 iv⟩ ?_
 rintro ⟨vis, rest, H1⟩ ⟨hp, hj⟩
 dsimp only at hp hj ⊢
 have hm1 := hJm _ _ _ hj
 obtain ⟨cur, hi1⟩ := hJi _ _ _ hj
 refine AW.rseq (fid := f) (mt := []) [0, 5, 7] rfl fun K1 hK1 => ?_
 simp only [go_sem, reduceIte, Nat.reduceEqDiff, Int.reduceLE, hi1, hm1, List.getElem?_cons_zero]
 refine ⟨fun hall => hK1 _ ?_, fun k v hkv hks => hK1 _ ?_⟩
 ·clear hK1 K1
  have hr := no_rest hn hp fun k hk => by
   obtain ⟨q, hq, rfl⟩ := List.mem_map.1 hk
   exact hall q hq
  subst hr
  rw [List.append_nil] at hp
  refine AW.cseq rfl (fun hc => by cases hc) (fun _ => ?_)
  refine AW.exit ?_
  refine ⟨.inl rfl, ?_⟩
  simp only [go_sem, reduceIte, Nat.reduceEqDiff]
  exact ⟨_, _, Conv.refl _ _, hdone _ _ _ hj hp⟩
 ·clear hK1 K1
  have hk : k ∈ es.map (·.1) := List.mem_map.2 ⟨_, hkv, rfl⟩
  obtain ⟨l1, l2, rfl, hp'⟩ := pick_key hp hk hks
  refine AW.cseq rfl (fun _ => ?_) (fun hc => by cases hc)
  refine AW.skip ?_
  refine AW.block ?_
  refine AW.rseq (fid := f) (mt := []) [0, 3, 5] rfl fun K1 hK1 => ?_
  simp only [go_sem, reduceIte, Nat.reduceEqDiff, Int.reduceLE, hget_hset, hm1, if_neg (Ne.symm hne), List.getElem?_cons_zero]
  refine ⟨v, alook_mem hn hkv, hK1 _ ?_⟩
  clear hK1 K1
  refine AW.rseq (fid := f) (mt := []) [0, 5, 13] rfl fun K1 hK1 => ?_
  simp only [go_sem, reduceIte, Nat.reduceEqDiff, Int.reduceLE]
  refine (hstep iv vis k H1 hj hk hks (by have := hp.length_eq; simp at this; omega)).mono ?_
  rintro r H2 ⟨rfl, hj2⟩
  simp only [go_sem, reduceIte, Nat.reduceEqDiff, Int.reduceLE]
  refine hK1 _ ?_
  clear hK1 K1
  refine AW.cond rfl (fun hc => by cases hc) (fun _ => ?_)
  refine AW.skip ?_
  exact ⟨(k :: vis, l1 ++ l2, H2), ⟨hp', hj2⟩, by simp, ⟨leS_get ⟨rfl, rfl, trivial⟩, fun _ _ h => h⟩⟩
set_option maxHeartbeats 1000000 in
theorem w160b {f mid mver : Nat} {es : List (List UInt8 × HV)} (hn : (es.map (·.1)).Nodup) (hbig : es.length ≤ 1099511627776) (h2 : f * 1000 + 2 ≠ mid) (h5 : f * 1000 + 5 ≠ mid) (h11 : f * 1000 + 11 ≠ mid) (h9 : f * 1000 + 900 ≠ mid) :
  ACall Try.prog 83 [.v (.slice none 0 0), .fn (.func 59) [] [.fptr [.mp mid mver] 0]] [(mid, mver, .map es)] fun r H' => ∃ l, l.Perm (es.map (·.1)) ∧ ((l = [] ∧ r = .v (.slice none 0 0) ∧ H' = []) ∨
   ∃ id av, l ≠ [] ∧ r = .ar id av 1 0 l.length ∧ H' = [(id, av, .arr 1 9 (l.map .str))]) := by
 refine ACall.of_body Try.func83 rfl rfl (Nat.le_of_ble_eq_true rfl) ?_
 unfold Try.f83
 dsimp only [enumS, Nat.reduceAdd]
 refine AW.rseq (fid := f) (mt := [2]) [1, 2] rfl fun K hK => ?_
 simp only [go_sem, reduceIte, Nat.reduceEqDiff, Int.reduceLE, h2]
 intro bv
 refine hK _ ?_
 clear hK K
 refine AW.seq ?_
 refine AW.rseq (fid := f) (mt := [2]) [2, 6] rfl fun K hK => ?_
 simp only [go_sem, reduceIte, Nat.reduceEqDiff, Int.reduceLE]
 refine hK _ ?_
 clear hK K
 refine AW.block ?_
 have n95 : f * 1000 + 900 ≠ f * 1000 + 5 := by simp
 have n92 : f * 1000 + 900 ≠ f * 1000 + 2 := by simp
 have n911 : f * 1000 + 900 ≠ f * 1000 + 11 := by simp
 have n52 : f * 1000 + 5 ≠ f * 1000 + 2 := by simp
 have n511 : f * 1000 + 5 ≠ f * 1000 + 11 := by simp
 have n112 : f * 1000 + 11 ≠ f * 1000 + 2 := by simp
 refine AW.rangeFuncL (f * 1000 + 900) rfl fun fn lver L hL => ?_
 dsimp only [List.length_cons, List.length_nil, Nat.reduceAdd] at hL ⊢
 refine w127b (f := f) hn h5 (by rw [hget_hset, if_neg (Ne.symm h9)]; exact hget_0) (fun iv vis H => hget H mid = some (mver, .map es) ∧ (∃ cur, hget H (f * 1000 + 5) = some (iv, .iter mid mver vis cur)) ∧
  hget H (f * 1000 + 900) = some (lver, L .ready none) ∧
  ((vis = [] ∧ hget H (f * 1000 + 2) = some (bv, .arr 1 22 [.v (.slice none 0 0)])) ∨
   ∃ av, vis ≠ [] ∧ hget H (f * 1000 + 2) = some (bv, .arr 1 22 [.ar (f * 1000 + 11) av 1 0 vis.length]) ∧ hget H (f * 1000 + 11) = some (av, .arr 1 9 (vis.reverse.map .str)))) (fun _ _ _ h => h.1) (fun _ _ _ h => h.2.1) (fun iv => ?_) ?_ ?_
 ·simp [hget_hset, hget, hset, h2, h5, h9, h11, Ne.symm h2, Ne.symm h5, Ne.symm h9, Ne.symm h11]
 ·rintro iv vis k H1 ⟨hm, ⟨cur, hi⟩, hlp, hac⟩ hk hks hlt
  rw [hL] at hlp
  refine ⟨_, _, _, _, _, _, (by rw [hget_hset, if_neg n95]; exact hlp), rfl, by simp, fun l => ?_⟩
  dsimp only [setPs]
  refine AW.region (fid := f) (mt := [2]) [2, 5] rfl fun K hK => ?_
  simp only [go_sem, reduceIte, Nat.reduceEqDiff, Int.reduceLE]
  refine hK _ ?_
  clear hK K
  refine ⟨rfl, by rw [hget_hset, if_neg n95]; exact hlp, ?_⟩
  refine AW.block ?_
  have fin : ∀ (av : Nat) (H2 : Heap) (o : AObj), o = L .ready none → hget H2 mid = some (mver, .map es) → hget H2 (f * 1000 + 5) = some (iv, .iter mid mver (k :: vis) true) →
    hget H2 (f * 1000 + 2) = some (bv, .arr 1 22 [.ar (f * 1000 + 11) av 1 0 (vis.length + 1)]) → hget H2 (f * 1000 + 11) = some (av, .arr 1 9 ((k :: vis).reverse.map .str)) →
    HV.bool true = .bool true ∧ hget (hset H2 (f * 1000 + 900) lver o) mid = some (mver, .map es) ∧ (∃ cur, hget (hset H2 (f * 1000 + 900) lver o) (f * 1000 + 5) = some (iv, .iter mid mver (k :: vis) cur)) ∧
  hget (hset H2 (f * 1000 + 900) lver o) (f * 1000 + 900) = some (lver, L .ready none) ∧
  ((k :: vis = [] ∧ hget (hset H2 (f * 1000 + 900) lver o) (f * 1000 + 2) = some (bv, .arr 1 22 [.v (.slice none 0 0)])) ∨
   ∃ av, k :: vis ≠ [] ∧ hget (hset H2 (f * 1000 + 900) lver o) (f * 1000 + 2) = some (bv, .arr 1 22 [.ar (f * 1000 + 11) av 1 0 (k :: vis).length]) ∧ hget (hset H2 (f * 1000 + 900) lver o) (f * 1000 + 11) = some (av, .arr 1 9 ((k :: vis).reverse.map .str))) := by
   intro av H2 o ho g1 g2 g4 g5
   refine ⟨rfl, ?_, ⟨true, ?_⟩, ?_, .inr ⟨av, by simp, ?_, ?_⟩⟩
   ·rw [hget_hset, if_neg (Ne.symm h9)]; exact g1
   ·rw [hget_hset, if_neg (Ne.symm n95)]; exact g2
   ·rw [hget_hset, if_pos rfl, ho]
   ·rw [hget_hset, if_neg (Ne.symm n92)]; exact g4
   ·rw [hget_hset, if_neg (Ne.symm n911)]; exact g5
  have hm2 : maxLen = 9223372036854775807 := rfl
  rcases hac with ⟨rfl, hb⟩ | ⟨av, _, hb, ha⟩
  ·refine AW.region (fid := f) (mt := [2]) [2, 5] rfl fun K hK => ?_
   simp only [go_sem, reduceIte, Nat.reduceEqDiff, Int.reduceLE, hget_hset, Nat.add_left_cancel_iff, hb, List.getElem?_cons_zero, Nat.add_zero, List.length_nil, List.length_cons, Nat.zero_le, HV.one, zrep, List.replicate_succ, List.replicate_zero, List.flatten_cons, List.flatten_nil,
    List.set_cons_zero, Option.any_some, Nat.reduceAdd, Nat.reduceMul, Nat.reduceLeDiff, Nat.reduceBEq, Bool.or_false, BEq.rfl, List.take_succ_cons, List.take_zero, List.drop_zero]
   refine ⟨by simp [maxLen], fun av' => hK _ ?_⟩
   clear hK K
   refine ⟨?_, fin av' _ _ (hL _ _).symm ?_ ?_ ?_ ?_⟩
   ·rw [hget_hset, if_neg n92, hget_hset, if_neg n911, hget_hset, if_pos rfl]
   ·rw [hget_hset, if_neg (Ne.symm h2), hget_hset, if_neg (Ne.symm h11), hget_hset, if_neg (Ne.symm h9), hget_hset, if_neg (Ne.symm h5)]; exact hm
   ·rw [hget_hset, if_neg n52, hget_hset, if_neg n511, hget_hset, if_neg (Ne.symm n95), hget_hset, if_pos rfl]
   ·rw [hget_hset, if_pos rfl]; rfl
   ·rw [hget_hset, if_neg n112, hget_hset, if_pos rfl]; simp
  ·refine AW.region (fid := f) (mt := [2]) [2, 5] rfl fun K hK => ?_
   simp only [go_sem, reduceIte, Nat.reduceEqDiff, Int.reduceLE, hget_hset, Nat.add_left_cancel_iff, hb, ha, List.getElem?_cons_zero, Nat.add_zero, List.length_nil, List.length_cons, Nat.zero_le, HV.one, zrep, List.replicate_succ, List.replicate_zero, List.flatten_cons, List.flatten_nil,
    List.set_cons_zero, Option.any_some, Nat.reduceAdd, Nat.reduceMul, Nat.reduceLeDiff, Nat.reduceBEq, Bool.or_false, BEq.rfl, List.take_succ_cons, List.take_zero, List.drop_zero]
   have hb1 : (vis.length + 1) * 16 ≤ 140737488355328 := by clear fin hL hlp; omega
   have hb2 : vis.length + 1 ≤ maxLen := by clear fin hL hlp; omega
   refine ⟨by simp, hb1, hb2, fun av' => hK _ ?_⟩
   clear hK K
   refine ⟨?_, fin av' _ _ (hL _ _).symm ?_ ?_ ?_ ?_⟩
   ·rw [hget_hset, if_neg n92, hget_hset, if_neg n911, hget_hset, if_pos rfl]
   ·rw [hget_hset, if_neg (Ne.symm h2), hget_hset, if_neg (Ne.symm h11), hget_hset, if_neg (Ne.symm h9), hget_hset, if_neg (Ne.symm h5)]; exact hm
   ·rw [hget_hset, if_neg n52, hget_hset, if_neg n511, hget_hset, if_neg (Ne.symm n95), hget_hset, if_pos rfl]
   ·rw [hget_hset, if_pos rfl]
   ·rw [hget_hset, if_neg n112, hget_hset, if_pos rfl, List.take_of_length_le (by simp)]; simp
 ·rintro iv vis H1 ⟨hm, _, hlp, ⟨hv0, hb⟩ | ⟨av, hvn, hb, ha⟩⟩ hp
  ·refine ⟨.ready, none, hlp, by simp, ?_⟩
   dsimp only [blockQ, thenQ]
   clear hL
   refine AW.rseq (fid := f) (mt := [2]) [4] rfl fun K hK => ?_
   simp only [go_sem, reduceIte, Nat.reduceEqDiff, Int.reduceLE, hget_hset, Nat.add_left_cancel_iff, hb, List.getElem?_cons_zero]
   refine hK _ ?_
   clear hK K
   refine AW.ret ⟨.inr rfl, ?_⟩
   simp only [go_sem, reduceIte, Nat.reduceEqDiff]
   exact ⟨_, [], Conv.drop (fun _ _ h => by cases h), [], hv0 ▸ hp, .inl ⟨rfl, rfl, rfl⟩⟩
  ·refine ⟨.ready, none, hlp, by simp, ?_⟩
   dsimp only [blockQ, thenQ]
   clear hL
   refine AW.rseq (fid := f) (mt := [2]) [4] rfl fun K hK => ?_
   simp only [go_sem, reduceIte, Nat.reduceEqDiff, Int.reduceLE, hget_hset, Nat.add_left_cancel_iff, hb, List.getElem?_cons_zero]
   refine hK _ ?_
   clear hK K
   refine AW.ret ⟨.inr rfl, ?_⟩
   simp only [go_sem, reduceIte, Nat.reduceEqDiff]
   refine ⟨_, [(f * 1000 + 11, av, .arr 1 9 (vis.reverse.map .str))], Conv.drop (leH_get ⟨?_, trivial⟩), vis.reverse, (List.reverse_perm vis).trans hp, .inr ⟨_, av, by simpa using hvn, by rw [List.length_reverse], rfl⟩⟩
   rw [hget_hset, if_neg (Ne.symm n911)]; exact ha
theorem w126b {f mid mver : Nat} {es : List (List UInt8 × HV)} (hn : (es.map (·.1)).Nodup) (hbig : es.length ≤ 1099511627776) (h2 : f * 1000 + 2 ≠ mid) (h5 : f * 1000 + 5 ≠ mid) (h11 : f * 1000 + 11 ≠ mid) (h9 : f * 1000 + 900 ≠ mid) :
  ACall Try.prog 58 [.fn (.func 59) [] [.fptr [.mp mid mver] 0]] [(mid, mver, .map es)] fun r H' => ∃ l, l.Perm (es.map (·.1)) ∧ ((l = [] ∧ r = .v (.slice none 0 0) ∧ H' = []) ∨
   ∃ id av, l ≠ [] ∧ r = .ar id av 1 0 l.length ∧ H' = [(id, av, .arr 1 9 (l.map .str))]) := by
 refine ACall.of_body Try.func58 rfl rfl (Nat.le_of_ble_eq_true rfl) ?_
 unfold Try.f58
 dsimp only [enumS, Nat.reduceAdd]
 refine AW.rseq (fid := f) (mt := []) [0] rfl fun K hK => ?_
 simp only [go_sem, reduceIte, Nat.reduceEqDiff, Int.reduceLE]
 refine hK _ ?_
 clear hK K
 refine AW.rseq (fid := f) (mt := []) [2] rfl fun K hK => ?_
 simp only [go_sem, reduceIte, Nat.reduceEqDiff, Int.reduceLE]
 refine (w160b hn hbig h2 h5 h11 h9).mono ?_
 rintro r H' hr
 refine hK _ ?_
 clear hK K
 refine AW.ret ⟨.inr rfl, ?_⟩
 simp only [go_sem, reduceIte, Nat.reduceEqDiff]
 exact ⟨_, _, Conv.refl _ _, hr⟩
theorem w81b {f mid mver : Nat} {es : List (List UInt8 × HV)} (hn : (es.map (·.1)).Nodup) (hbig : es.length ≤ 1099511627776) (h2 : f * 1000 + 2 ≠ mid) (h5 : f * 1000 + 5 ≠ mid) (h11 : f * 1000 + 11 ≠ mid) (h9 : f * 1000 + 900 ≠ mid) :
  ACall Try.prog 30 [.fn (.func 59) [] [.fptr [.mp mid mver] 0]] [(mid, mver, .map es)] fun r H' => (es = [] ∧ r = nilS ∧ H' = []) ∨
   ∃ id av, es ≠ [] ∧ r = .ar id av 1 0 es.length ∧ H' = [(id, av, .arr 1 9 ((sortS (es.map (·.1))).map .str))] := by
 refine ACall.of_body Try.func30 rfl rfl (Nat.le_of_ble_eq_true rfl) ?_
 unfold Try.f30
 dsimp only [enumS, Nat.reduceAdd]
 refine AW.rseq (fid := f) (mt := []) [0] rfl fun K hK => ?_
 simp only [go_sem, reduceIte, Nat.reduceEqDiff, Int.reduceLE]
 refine hK _ ?_
 clear hK K
 refine AW.rseq (fid := f) (mt := []) [3] rfl fun K hK => ?_
 simp only [go_sem, reduceIte, Nat.reduceEqDiff, Int.reduceLE]
 refine (w126b hn hbig h2 h5 h11 h9).mono ?_
 rintro r H' ⟨l, hp, ⟨rfl, rfl, rfl⟩ | ⟨id, av, hln, rfl, rfl⟩⟩
 ·refine hK _ ?_
  clear hK K
  have he : es = [] := by
   have := hp.length_eq
   simp only [List.length_nil, List.length_map] at this
   exact List.eq_nil_of_length_eq_zero this.symm
  refine AW.rseq (fid := f) (mt := []) [3] rfl fun K hK => ?_
  simp only [go_sem, reduceIte, Nat.reduceEqDiff, Int.reduceLE]
  refine w45n ?_
  refine hK _ ?_
  clear hK K
  refine AW.rseq (fid := f) (mt := []) [2] rfl fun K hK => ?_
  simp only [go_sem, reduceIte, Nat.reduceEqDiff, Int.reduceLE]
  refine hK _ ?_
  clear hK K
  refine AW.ret ⟨.inr rfl, ?_⟩
  simp only [go_sem, reduceIte, Nat.reduceEqDiff]
  exact ⟨_, _, Conv.refl _ _, .inl ⟨he, rfl, rfl⟩⟩
 ·refine hK _ ?_
  clear hK K
  have hlen := hp.length_eq
  rw [List.length_map] at hlen
  refine AW.rseq (fid := f) (mt := []) [3] rfl fun K hK => ?_
  simp only [go_sem, reduceIte, Nat.reduceEqDiff, Int.reduceLE]
  refine w45 hget_0 (by omega) ?_
  simp only [go_sem, reduceIte, Nat.reduceEqDiff, Int.reduceLE]
  refine hK _ ?_
  clear hK K
  refine AW.rseq (fid := f) (mt := []) [2] rfl fun K hK => ?_
  simp only [go_sem, reduceIte, Nat.reduceEqDiff, Int.reduceLE]
  refine hK _ ?_
  clear hK K
  refine AW.ret ⟨.inr rfl, ?_⟩
  simp only [go_sem, reduceIte, Nat.reduceEqDiff]
  exact ⟨_, _, Conv.refl _ _, .inr ⟨id, av, by rintro rfl; exact hln (List.eq_nil_of_length_eq_zero hlen), by rw [hlen], by rw [sortS_perm hp]⟩⟩
theorem w82b {id ver : Nat} {H : Heap} {K : HV → Heap → Prop} (hK : K (.fn (.func 59) [] [.fptr [.mp id ver] 0]) H) : ACall Try.prog 31 [.mp id ver] H K := by
 refine ACall.of_body Try.func31 rfl rfl (Nat.le_of_ble_eq_true rfl) ?_
 unfold Try.f31
 dsimp only [enumS, Nat.reduceAdd]
 refine AW.rseq (fid := 82) (mt := []) [1] rfl fun K1 hK1 => ?_
 simp only [go_sem, reduceIte, Nat.reduceEqDiff, Int.reduceLE, HV.one]
 refine hK1 _ ?_
 clear hK1 K1
 refine AW.rseq (fid := 82) (mt := []) [2] rfl fun K1 hK1 => ?_
 simp only [go_sem, reduceIte, Nat.reduceEqDiff, Int.reduceLE]
 refine hK1 _ ?_
 clear hK1 K1
 refine AW.ret ⟨.inr rfl, ?_⟩
 simp only [go_sem, reduceIte, Nat.reduceEqDiff]
 exact ⟨_, _, Conv.refl _ _, hK⟩
theorem c_sortedKeysB {id ver : Nat} {es : List (List UInt8 × Bool)} (hn : (es.map (·.1)).Nodup) (hb : es.length ≤ 1099511627776) {K : HV → Heap → Prop} (hK : K (slE eStr (sortS (es.map (·.1)))) []) :
  ACall Try.prog 30 [.fn (.func 59) [] [.fptr [.mp id ver] 0]] [(id, ver, .map (entE HV.bool es))] K := by
 have hm : (entE HV.bool es).map (·.1) = es.map (·.1) := by
  unfold entE
  rw [List.map_map]
  rfl
 have hlen : (entE HV.bool es).length = es.length := by unfold entE; rw [List.length_map]
 refine (w81b (f := id + 1) (by rw [hm]; exact hn) (by omega) (by omega) (by omega) (by omega) (by omega)).conv' ?_
 rw [hm, hlen]
 rintro r H' (⟨he, rfl, rfl⟩ | ⟨id', av, hen, rfl, rfl⟩)
 ·have hl : es = [] := List.eq_nil_of_length_eq_zero (by rw [← hlen, he]; rfl)
  subst hl
  have e0 : sortS (([] : List (List UInt8 × Bool)).map (·.1)) = [] := List.eq_nil_of_length_eq_zero (by rw [sortS_len]; rfl)
  rw [e0] at hK
  exact ⟨slE eStr [], [], Conv.le (.nil 1), hK⟩
 ·refine ⟨_, [], Conv.all 2, ?_⟩
  have e : es.length = (sortS (es.map (·.1))).length := by rw [sortS_len, List.length_map]
  rw [e]
  have hf := frz_slE eStr (D := [(id', av, .arr 1 9 ((sortS (es.map (·.1))).map .str))]) (l := sortS (es.map (·.1))) hget_0 (fun _ _ => rfl)
  have hk2 := hK
  rw [← hf] at hk2
  exact hk2
end Go.AW
namespace Go.AW
open Go
def m_strings_Repeat (s : List UInt8) (n : Int) : Option (List UInt8) := if 0 ≤ n ∧ n ≤ 9223372036854775807 ∧ s.length * n.toNat ≤ 140737488355328 then some (List.replicate n.toNat s).flatten else none
set_option linter.unusedVariables false
noncomputable def m_slices_Equal_Lstring_string (p0 : List (List UInt8)) (p1 : List (List UInt8)) : Option (Bool) :=
 if ((p0).length : Int) ≠ ((p1).length : Int) then
  some false
 else
  lpO (loopW (S := Int) (X := Ou (Unit) (Bool)) (fun a1 =>
    if a1 < ((p0).length : Int) then
     (idx p0 a1).bind fun x5 =>
     (idx p1 a1).bind fun x7 =>
     if x5 ≠ x7 then
      some (Stp.exit (Ou.ret false))
     else
      some (Stp.next (IntKind.wrap .i64 (a1 + 1)))
    else
     some (Stp.exit (Ou.go ()))) 0) (fun a9 =>
    some true) some
noncomputable def m_word_All (p0 : Int) (p1 : Int) : Option ((List (List UInt8)) × Int) :=
 (m_word_known p0).bind fun x1 =>
 if (!x1) = true then
  some ([], 12)
 else
  if p1 < 0 then
   some ([], 2)
  else
   if 65536 < p1 then
    some ([], 4)
   else
    if p0 = 1 then
     (m_strings_Repeat [48] p1).bind fun x3 =>
     some ([x3], 0)
    else
     lpO (loopW (S := (List (List UInt8)) × Int) (X := Ou ((List (List UInt8))) ((List (List UInt8)) × Int)) (fun a5 =>
       if a5.2 < p1 then
        if 4096 < (IntKind.wrap .i64 (((a5.1).length : Int) * p0)) then
         some (Stp.exit (Ou.ret ([], 4)))
        else
         if 0 ≤ (0 : Int) ∧ (0 : Int) ≤ IntKind.wrap .i64 (((a5.1).length : Int) * p0) ∧ (IntKind.wrap .i64 (((a5.1).length : Int) * p0) : Int) * 16 ≤ 281474976710656 then
          (loopW (S := Int × (List (List UInt8))) (X := (List (List UInt8))) (fun a11 =>
            if a11.1 < ((a5.1).length : Int) then
             (idx a5.1 a11.1).bind fun x15 =>
             (loopW (S := Int × (List (List UInt8))) (X := (List (List UInt8))) (fun a17 =>
               if a17.1 < p0 then
                if 0 ≤ (a17.1 : Int) ∧ (a17.1 : Int) ≤ IntKind.wrap .i64 (a17.1 + 1) ∧ IntKind.wrap .i64 (a17.1 + 1) ≤ (([48, 49, 50, 51, 52, 53, 54, 55, 56, 57, 97, 98, 99, 100, 101, 102] : List UInt8).length : Int) then
                 if x15.length + ((([48, 49, 50, 51, 52, 53, 54, 55, 56, 57, 97, 98, 99, 100, 101, 102] : List UInt8).take (IntKind.wrap .i64 (a17.1 + 1)).toNat).drop (a17.1).toNat).length ≤ maxLen then
                  if fits 16 ((a17.2 : List (List UInt8)).length + ([x15 ++ ((([48, 49, 50, 51, 52, 53, 54, 55, 56, 57, 97, 98, 99, 100, 101, 102] : List UInt8).take (IntKind.wrap .i64 (a17.1 + 1)).toNat).drop (a17.1).toNat)]).length) then
                   some (Stp.next (IntKind.wrap .i64 (a17.1 + 1), a17.2 ++ [x15 ++ ((([48, 49, 50, 51, 52, 53, 54, 55, 56, 57, 97, 98, 99, 100, 101, 102] : List UInt8).take (IntKind.wrap .i64 (a17.1 + 1)).toNat).drop (a17.1).toNat)]))
                  else none
                 else none
                else none
               else
                some (Stp.exit a17.2)) (0, a11.2)).bind fun a25 =>
             some (Stp.next (IntKind.wrap .i64 (a11.1 + 1), a25))
            else
             some (Stp.exit a11.2)) (0, List.replicate (0 : Int).toNat (([] : List UInt8) : List UInt8))).bind fun a27 =>
          some (Stp.next (a27, IntKind.wrap .i64 (a5.2 + 1)))
         else none
       else
        some (Stp.exit (Ou.go a5.1))) ([([] : List UInt8)], 0)) (fun a29 =>
       some (a29, 0)) some
noncomputable def m_indel_check (p0 : List (List UInt8)) : Option (Int) :=
 lpO (loopW (S := Int) (X := Ou (Unit) (Int)) (fun a1 =>
     if a1 < ((p0).length : Int) then
      (idx p0 a1).bind fun x5 =>
      if 256 < ((x5).length : Int) then
       some (Stp.exit (Ou.ret 4))
      else
       some (Stp.next (IntKind.wrap .i64 (a1 + 1)))
     else
      some (Stp.exit (Ou.go ()))) 0) (fun a7 =>
     lpO (loopW (S := Int) (X := Ou (Unit) (Int)) (fun a9 =>
         if a9 < ((p0).length : Int) then
          (idx p0 a9).bind fun x13 =>
          (m_word_Check 16 x13).bind fun x15 =>
          if x15 ≠ 0 then
           some (Stp.exit (Ou.ret x15))
          else
           some (Stp.next (IntKind.wrap .i64 (a9 + 1)))
         else
          some (Stp.exit (Ou.go ()))) 0) (fun a17 =>
         some 0) some) some
noncomputable def m_tenengolts_check (p0 : Int) (p1 : Int) : Option (Int) :=
 jp (fun (a1 : Bool) =>
   if a1 = true then
    some 2
   else
    some 0)
   fun k3 =>
  if p0 < 0 then
   k3 true
  else
   if 64 < p0 then
    k3 true
   else
    if p1 < 0 then
     k3 true
    else
     k3 (decide (p0 < p1))
noncomputable def m_tenengolts_syndrome (p0 : List UInt8) : Option (Int) :=
 (loopW (S := Int × Int) (X := Int) (fun a1 =>
     if a1.2 < ((p0).length : Int) then
      jp (fun (a5 : Int) =>
        some (Stp.next (a5, IntKind.wrap .i64 (a1.2 + 1))))
        fun k7 =>
       (idx p0 a1.2).bind fun x8 =>
       if (x8.toNat : Int) = 49 then
        k7 (IntKind.wrap .i64 (a1.1 + (IntKind.wrap .i64 (a1.2 + 1))))
       else
        k7 a1.1
     else
      some (Stp.exit a1.1)) (0, 0)).bind fun a10 =>
 if (IntKind.wrap .i64 (((p0).length : Int) + 1)) ≠ 0 then
  some (Int.tmod a10 (IntKind.wrap .i64 (((p0).length : Int) + 1)))
 else none
noncomputable def m_tenengolts_Words (p0 : Int) (p1 : Int) : Option ((List (List UInt8)) × Int) :=
 (m_tenengolts_check p0 p1).bind fun x1 =>
 if x1 ≠ 0 then
  some ([], x1)
 else
  if 12 < p0 then
   some ([], 4)
  else
   (m_word_All 2 p0).bind fun x3 =>
   if x3.2 ≠ 0 then
    some ([], x3.2)
   else
    (loopW (S := Int × (List (List UInt8))) (X := (List (List UInt8))) (fun a5 =>
        if a5.1 < ((x3.1).length : Int) then
         jp (fun (a9 : (List (List UInt8))) =>
           some (Stp.next (IntKind.wrap .i64 (a5.1 + 1), a9)))
           fun k11 =>
          (idx x3.1 a5.1).bind fun x12 =>
          (m_tenengolts_syndrome x12).bind fun x14 =>
          if x14 = p1 then
           if fits 16 ((a5.2 : List (List UInt8)).length + ([x12]).length) then
            k11 (a5.2 ++ [x12])
           else none
          else
           k11 a5.2
        else
         some (Stp.exit a5.2)) (0, ([] : List (List UInt8)))).bind fun a19 =>
    some (a19, 0)
noncomputable def m_indel_Separated (p0 : List (List UInt8)) (p1 : Int) : Option (Bool × Int) :=
 if 256 < ((p0).length : Int) then
  some (false, 4)
 else
  lpO (loopW (S := Int) (X := Ou (Unit) (Bool × Int)) (fun a1 =>
      if a1 < ((p0).length : Int) then
       (idx p0 a1).bind fun x5 =>
       (m_indel_check [x5]).bind fun x7 =>
       if x7 ≠ 0 then
        some (Stp.exit (Ou.ret (false, x7)))
       else
        some (Stp.next (IntKind.wrap .i64 (a1 + 1)))
      else
       some (Stp.exit (Ou.go ()))) 0) (fun a9 =>
      lpO (loopW (S := Int × Int) (X := Ou (Int) (Bool × Int)) (fun a11 =>
          if a11.2 < ((p0).length : Int) then
           (idx p0 a11.2).bind fun x15 =>
           jp (fun (a17 : Bool) =>
             if a17 = true then
              some (Stp.exit (Ou.ret (false, 11)))
             else
              some (Stp.next (((x15).length : Int), IntKind.wrap .i64 (a11.2 + 1))))
             fun k19 =>
            if 0 < a11.2 then
             k19 (decide (((x15).length : Int) ≠ a11.1))
            else
             k19 false
          else
           some (Stp.exit (Ou.go a11.1))) (0, 0)) (fun a21 =>
          jp (fun (a23 : Bool) =>
            if a23 = true then
             some (false, 2)
            else
             lpO (loopW (S := Int) (X := Ou (Unit) (Bool × Int)) (fun a26 =>
                 if a26 < ((p0).length : Int) then
                  (idx p0 a26).bind fun x30 =>
                  if 0 ≤ (0 : Int) ∧ (0 : Int) ≤ a26 ∧ a26 ≤ (p0.length : Int) then
                   lpO (loopW (S := Int) (X := Ou (Unit) (Bool × Int)) (fun a33 =>
                       if a33 < (((p0.take (a26).toNat).drop (0 : Int).toNat).length : Int) then
                        (idx ((p0.take (a26).toNat).drop (0 : Int).toNat) a33).bind fun x37 =>
                        jp (fun (a39 : Bool) =>
                          if a39 = true then
                           some (Stp.exit (Ou.ret (false, 0)))
                          else
                           some (Stp.next (IntKind.wrap .i64 (a33 + 1))))
                          fun k41 =>
                         if x30 ≠ x37 then
                          (m_indel_tab x30 x37).bind fun x42 =>
                          k41 (decide ((IntKind.wrap .i64 (a21 - x42)) ≤ p1))
                         else
                          k41 false
                       else
                        some (Stp.exit (Ou.go ()))) 0) (fun a45 =>
                       some (Stp.next (IntKind.wrap .i64 (a26 + 1)))) (fun r => some (Stp.exit (Ou.ret r)))
                  else none
                 else
                  some (Stp.exit (Ou.go ()))) 0) (fun a47 =>
                 some (true, 0)) some)
            fun k25 =>
           if p1 < 0 then
            k25 true
           else
            k25 (decide (a21 < p1))) some) some
noncomputable def m_indel_Deletions (p0 : List UInt8) : Option ((List (List UInt8)) × Int) :=
 (m_indel_check [p0]).bind fun x1 =>
 if x1 ≠ 0 then
  some ([], x1)
 else
  (m_indel_del p0).bind fun x3 =>
  some (x3, 0)
end Go.AW
namespace Go.Proofs
open Go
def Try.strRep_ren : Go.Shelf.Ren := ⟨fun | 105 => 50 | 212 => 76 | 99 => 77 | 165 => 78 | 166 => 79 | 170 => 80 | 169 => 81 | 263 => 93 | 264 => 94 | 206 => 95 | 240 => 96 | 241 => 97 | 276 => 104 | 277 => 105 | n => n, fun | 9 => 9 | 3 => 3 | 4 => 4 | 20 => 20 | 0 => 0 | 46 => 63 | 109 => 124 | 5 => 5 | 72 => 128 | 76 => 131 | 51 => 62 | 146 => 143 | 53 => 60 | 148 => 145 | 70 => 126 | 37 => 104 | 75 => 130 | 127 => 147 | 164 => 157 | 80 => 134 | n => n, fun | n => n⟩
theorem Try.strRep : Go.Proofs.Lays.n105 Try.prog Try.strRep_ren where
 mixed := by kernel_rfl
 f99 := Try.func77.trans (congrArg some (by kernel_rfl))
 f105 := Try.func50.trans (congrArg some (by kernel_rfl))
 f165 := Try.func78.trans (congrArg some (by kernel_rfl))
 f166 := Try.func79.trans (congrArg some (by kernel_rfl))
 f169 := Try.func81.trans (congrArg some (by kernel_rfl))
 f170 := Try.func80.trans (congrArg some (by kernel_rfl))
 f206 := Try.func95.trans (congrArg some (by kernel_rfl))
 f212 := Try.func76.trans (congrArg some (by kernel_rfl))
 f240 := Try.func96.trans (congrArg some (by kernel_rfl))
 f241 := Try.func97.trans (congrArg some (by kernel_rfl))
 f263 := Try.func93.trans (congrArg some (by kernel_rfl))
 f264 := Try.func94.trans (congrArg some (by kernel_rfl))
 f276 := Try.func104.trans (congrArg some (by kernel_rfl))
 f277 := Try.func105.trans (congrArg some (by kernel_rfl))
 t0 := Try.underlying0
 a0 := Try.isAgg0
 z0 := Try.sizeOf0
 v0 := Try.zeroValue0
 t3 := Try.underlying3
 a3 := Try.isAgg3
 z3 := Try.sizeOf3
 v3 := Try.zeroValue3
 t4 := Try.underlying4
 a4 := Try.isAgg4
 z4 := Try.sizeOf4
 v4 := Try.zeroValue4
 t5 := Try.underlying5
 a5 := Try.isAgg5
 z5 := Try.sizeOf5
 v5 := Try.zeroValue5
 t9 := Try.underlying9
 a9 := Try.isAgg9
 z9 := Try.sizeOf9
 v9 := Try.zeroValue9
 t20 := Try.underlying20
 a20 := Try.isAgg20
 z20 := Try.sizeOf20
 v20 := Try.zeroValue20
 t37 := Try.underlying104
 a37 := Try.isAgg104
 z37 := Try.sizeOf104
 v37 := Try.zeroValue104
 t46 := Try.underlying63
 a46 := Try.isAgg63
 z46 := Try.sizeOf63
 v46 := Try.zeroValue63
 t51 := Try.underlying62
 a51 := Try.isAgg62
 z51 := Try.sizeOf62
 v51 := Try.zeroValue62
 t53 := Try.underlying60
 a53 := Try.isAgg60
 z53 := Try.sizeOf60
 v53 := Try.zeroValue60
 t70 := Try.underlying126
 a70 := Try.isAgg126
 z70 := Try.sizeOf126
 v70 := Try.zeroValue126
 t72 := Try.underlying128
 a72 := Try.isAgg128
 z72 := Try.sizeOf128
 v72 := Try.zeroValue128
 t75 := Try.underlying130
 a75 := Try.isAgg130
 z75 := Try.sizeOf130
 v75 := Try.zeroValue130
 t76 := Try.underlying131
 a76 := Try.isAgg131
 z76 := Try.sizeOf131
 v76 := Try.zeroValue131
 t109 := Try.underlying124
 a109 := Try.isAgg124
 z109 := Try.sizeOf124
 v109 := Try.zeroValue124
 t127 := Try.underlying147
 a127 := Try.isAgg147
 z127 := Try.sizeOf147
 v127 := Try.zeroValue147
 t146 := Try.underlying143
 a146 := Try.isAgg143
 z146 := Try.sizeOf143
 v146 := Try.zeroValue143
 t148 := Try.underlying145
 a148 := Try.isAgg145
 z148 := Try.sizeOf145
 v148 := Try.zeroValue145
 t164 := Try.underlying157
 a164 := Try.isAgg157
 z164 := Try.sizeOf157
 v164 := Try.zeroValue157
end Go.Proofs
namespace Go.Proofs
open Go
theorem Try.bldX : Go.Proofs.Builder.Extra Try.prog Try.strRep_ren where
 sizeBuilder := by kernel_rfl
 liesBuilder := by kernel_rfl
 t5 := Try.underlying5
 a5 := Try.isAgg5
 z5 := Try.sizeOf5
 v5 := Try.zeroValue5
 infoByte := by kernel_rfl
 cellsByte := by kernel_rfl
 sizeByte := by kernel_rfl
 neB5 := by decide
end Go.Proofs
namespace Go.AW
open Go Go.Proofs Go.Lib
theorem rep_flat : ∀ (s : List UInt8) (n : Nat), Lib.repeatL s n = (List.replicate n s).flatten
 | s, 0 => rfl
 | s, n + 1 => by rw [List.replicate_succ, List.flatten_cons, ← rep_flat s n]; rfl
theorem flat_repl (s : List UInt8) : ∀ m : Nat, (List.replicate m s).flatten.length = m * s.length
 | 0 => by simp
 | m + 1 => by rw [List.replicate_succ, List.flatten_cons, List.length_append, flat_repl s m, Nat.succ_mul]; omega
theorem w_strings_Repeat {s r : List UInt8} {n : Int} (h : m_strings_Repeat s n = some r) : Pure Try.prog 50 [HV.str s, HV.int .i64 n] (· = HV.str r) := by
 unfold m_strings_Repeat at h
 split at h
 ·rename_i hc
  obtain ⟨h0, h1, h2⟩ := hc
  cases h
  obtain ⟨m, rfl⟩ := Int.eq_ofNat_of_zero_le h0
  simp only [Int.toNat_natCast] at h2 ⊢
  refine ⟨enters' Try.func50 rfl rfl, fun μ w vs hs hr _ => ?_⟩
  obtain ⟨x, xs, rfl, ⟨rfl, hl⟩, y, ys, rfl, ⟨rfl, _⟩, hn⟩ := hr
  cases hn
  refine (Any.strings_Repeat Try.strRep Try.bldX ⟨s.toArray⟩ m w (by omega) (by simpa [ByteArray.size] using h2)).mono ?_
  rintro e w' ⟨rfl, hbel⟩
  have hg : Grow w w' := ⟨⟨hbel.os, hbel.tape, hbel.output⟩, hbel.size, hbel.block⟩
  refine ⟨_, .str (List.replicate m s).flatten, [], μ, rfl, ⟨rfl, trivial, rfl⟩, hs.grow hg, ⟨?_, ?_⟩, Evo.grow hs hg⟩
  ·rw [← rep_flat]
  ·rw [flat_repl, Nat.mul_comm]
   simp only [maxLen]
   omega
 ·cases h
end Go.AW
namespace Go.AW
open Go
mutual
def HV.ren (ρ : Nat → Nat) : HV → HV
 | .int k n => .int k n
 | .bool b => .bool b
 | .str l => .str l
 | .v x => .v x
 | .agg cs => .agg (renL ρ cs)
 | .tup cs => .tup (renL ρ cs)
 | .sl k n cs => .sl k n (renL ρ cs)
 | .ar id ver k off n => .ar id (ρ ver) k off n
 | .ptr id ver off => .ptr id (ρ ver) off
 | .fptr cs off => .fptr (renL ρ cs) off
 | .fn f fs cs => .fn f (renL ρ fs) (renL ρ cs)
 | .mp id ver => .mp id (ρ ver)
 | .yl id ver => .yl id (ρ ver)
 | .it id ver => .it id (ρ ver)
def renL (ρ : Nat → Nat) : List HV → List HV
 | [] => []
 | c :: cs => c.ren ρ :: renL ρ cs
end
theorem renL_map (ρ : Nat → Nat) : ∀ cs, renL ρ cs = cs.map (HV.ren ρ)
 | [] => by simp [renL]
 | c :: cs => by simp [renL, renL_map ρ cs]
def renS (ρ : Nat → Nat) : List (Nat × HV) → List (Nat × HV)
 | [] => []
 | (t, h) :: l => (t, h.ren ρ) :: renS ρ l
def renE (ρ : Nat → Nat) : List (List UInt8 × HV) → List (List UInt8 × HV)
 | [] => []
 | (t, h) :: l => (t, h.ren ρ) :: renE ρ l
def AObj.ren (ρ : Nat → Nat) : AObj → AObj
 | .arr k e cs => .arr k e (renL ρ cs)
 | .map es => .map (renE ρ es)
 | .iter mid mver seen cur => .iter mid (ρ mver) seen cur
 | .loop st pend f n snap ps assign body => .loop st pend (ρ f) n (renS ρ snap) ps assign body
 | .kmap es => .kmap es
def renH (ρ : Nat → Nat) : Heap → Heap
 | [] => []
 | (i, v, o) :: l => (i, ρ v, o.ren ρ) :: renH ρ l
def AS.ren (ρ : Nat → Nat) (s : AS) : AS := ⟨renS ρ s.slots, renH ρ s.heap⟩
theorem sget_ren (ρ : Nat → Nat) : ∀ (l : List (Nat × HV)) (t : Nat), sget (renS ρ l) t = (sget l t).map (HV.ren ρ)
 | [], t => rfl
 | (i, h) :: l, t => by
  simp only [renS, sget]
  split
  ·rfl
  ·exact sget_ren ρ l t
theorem hget_ren (ρ : Nat → Nat) : ∀ (l : Heap) (t : Nat), hget (renH ρ l) t = (hget l t).map fun x => (ρ x.1, x.2.ren ρ)
 | [], t => rfl
 | (i, v, o) :: l, t => by
  simp only [renH, hget]
  split
  ·rfl
  ·exact hget_ren ρ l t
theorem renS_set (ρ : Nat → Nat) : ∀ (l : List (Nat × HV)) (t : Nat) (h : HV), renS ρ (sset l t h) = sset (renS ρ l) t (h.ren ρ)
 | [], t, h => rfl
 | (i, g) :: l, t, h => by
  simp only [renS, sset]
  split
  ·rfl
  ·simp only [renS, renS_set ρ l t h]
theorem renH_set (ρ : Nat → Nat) : ∀ (l : Heap) (t v : Nat) (o : AObj), renH ρ (hset l t v o) = hset (renH ρ l) t (ρ v) (o.ren ρ)
 | [], t, v, o => rfl
 | (i, w, p) :: l, t, v, o => by
  simp only [renH, hset]
  split
  ·rfl
  ·simp only [renH, renH_set ρ l t v o]
theorem ren_put (ρ : Nat → Nat) (s : AS) (d : Option Tmp) (h : HV) : (s.put d h).ren ρ = (s.ren ρ).put d (h.ren ρ) := by
 cases d with
 | none => rfl
 | some t => simp [AS.put, AS.ren, renS_set]
theorem constHV_ren (ρ : Nat → Nat) (v : Value) : (constHV v).map (HV.ren ρ) = constHV v := by
 cases v with
 | int k n => simp only [constHV]; split <;> rfl
 | string s => simp only [constHV]; split <;> rfl
 | _ => rfl
theorem ev_ren (ρ : Nat → Nat) (s : AS) (x : Operand) : (s.ren ρ).ev x = (s.ev x).map (HV.ren ρ) := by
 cases x with
 | tmp t => exact sget_ren ρ s.slots t
 | const v => exact (constHV_ren ρ v).symm
 | global g => rfl
 | func f => rfl
theorem evL_ren (ρ : Nat → Nat) (s : AS) : ∀ xs : List Operand, xs.mapM (s.ren ρ).ev = (xs.mapM s.ev).map (renL ρ)
 | [] => rfl
 | x :: xs => by
  simp only [List.mapM_cons, Option.pure_def, Option.bind_eq_bind, ev_ren, evL_ren ρ s xs]
  cases s.ev x with
  | none => rfl
  | some h => cases xs.mapM s.ev <;> rfl
theorem cells_ren (ρ : Nat → Nat) (h : HV) : (h.ren ρ).cells? = h.cells?.map (renL ρ) := by
 cases h with
 | v x => simp only [HV.ren, HV.cells?]; split <;> rfl
 | _ => rfl
theorem renL_len (ρ : Nat → Nat) (cs : List HV) : (renL ρ cs).length = cs.length := by simp [renL_map]
theorem renL_get (ρ : Nat → Nat) (cs : List HV) (i : Nat) : (renL ρ cs)[i]? = cs[i]?.map (HV.ren ρ) := by simp [renL_map]
theorem renL_drop (ρ : Nat → Nat) (cs : List HV) (i : Nat) : renL ρ (cs.drop i) = (renL ρ cs).drop i := by simp [renL_map]
theorem renL_take (ρ : Nat → Nat) (cs : List HV) (i : Nat) : renL ρ (cs.take i) = (renL ρ cs).take i := by simp [renL_map]
theorem renL_append (ρ : Nat → Nat) (cs ds : List HV) : renL ρ (cs ++ ds) = renL ρ cs ++ renL ρ ds := by simp [renL_map]
theorem renL_set (ρ : Nat → Nat) (cs : List HV) (i : Nat) (c : HV) : renL ρ (cs.set i c) = (renL ρ cs).set i (c.ren ρ) := by simp [renL_map, List.map_set]
theorem renL_splice (ρ : Nat → Nat) (xs : List HV) (off : Nat) (cs : List HV) : renL ρ (splice xs off cs) = splice (renL ρ xs) off (renL ρ cs) := by
 match cs with
 | [] => simp [splice, renL, renL_append, renL_take, renL_drop]
 | [c] => simp [splice, renL, renL_set]
 | c :: d :: cs => simp [splice, renL, renL_append, renL_take, renL_drop, renL_len]
mutual
def HV.sc (n : Nat) : HV → Bool
 | .agg cs | .tup cs | .sl _ _ cs | .fptr cs _ => scL n cs
 | .ar _ ver _ _ _ | .ptr _ ver _ | .mp _ ver | .yl _ ver | .it _ ver => Nat.blt ver n
 | .fn _ fs cs => scL n fs && scL n cs
 | _ => true
def scL (n : Nat) : List HV → Bool
 | [] => true
 | c :: cs => c.sc n && scL n cs
end
def scS (n : Nat) : List (Nat × HV) → Bool
 | [] => true
 | (_, h) :: l => h.sc n && scS n l
def scE (n : Nat) : List (List UInt8 × HV) → Bool
 | [] => true
 | (_, h) :: l => h.sc n && scE n l
def AObj.sc (n : Nat) : AObj → Bool
 | .arr _ _ cs => scL n cs
 | .map es => scE n es
 | .iter _ mver _ _ => Nat.blt mver n
 | .loop _ _ f _ snap _ _ _ => Nat.blt f n && scS n snap
 | .kmap _ => true
def scH (n : Nat) : Heap → Bool
 | [] => true
 | (i, v, o) :: l => (Nat.blt i n && Nat.blt v n) && o.sc n && scH n l
def AS.sc (n : Nat) (s : AS) : Bool := scS n s.slots && scH n s.heap
def Agree (n : Nat) (ρ ρ' : Nat → Nat) : Prop := ∀ v, v < n → ρ v = ρ' v
theorem Agree.refl (n : Nat) (ρ : Nat → Nat) : Agree n ρ ρ := fun _ _ => rfl
theorem Agree.trans {n m : Nat} {ρ ρ' ρ'' : Nat → Nat} (h : Agree n ρ ρ') (hn : n ≤ m) (h' : Agree m ρ' ρ'') : Agree n ρ ρ'' := fun v hv => (h v hv).trans (h' v (by omega))
def upd (ρ : Nat → Nat) (n v : Nat) : Nat → Nat := fun x => if x = n then v else ρ x
theorem Agree.upd (n v : Nat) (ρ : Nat → Nat) : Agree n ρ (upd ρ n v) := fun x hx => by simp only [AW.upd]; rw [if_neg (by omega)]
theorem upd_at (ρ : Nat → Nat) (n v : Nat) : upd ρ n v n = v := by simp [AW.upd]
section
variable {n m : Nat} {ρ ρ' : Nat → Nat}
theorem blt_lt {a b : Nat} (h : Nat.blt a b = true) : a < b := by simpa [Nat.blt_eq] using h
mutual
theorem HV.ren_agree (ha : Agree n ρ ρ') : ∀ h : HV, h.sc n = true → h.ren ρ = h.ren ρ'
 | .int _ _, _ => rfl
 | .bool _, _ => rfl
 | .str _, _ => rfl
 | .v _, _ => rfl
 | .agg cs, h => congrArg HV.agg (renL_agree ha cs h)
 | .tup cs, h => congrArg HV.tup (renL_agree ha cs h)
 | .sl k m cs, h => congrArg (HV.sl k m) (renL_agree ha cs h)
 | .ar id ver k off m, h => by simp only [HV.ren]; rw [ha ver (blt_lt h)]
 | .ptr id ver off, h => by simp only [HV.ren]; rw [ha ver (blt_lt h)]
 | .fptr cs off, h => congrArg (fun x => HV.fptr x off) (renL_agree ha cs h)
 | .fn f fs cs, h => by
  simp only [HV.sc, Bool.and_eq_true] at h
  simp only [HV.ren]
  rw [renL_agree ha fs h.1, renL_agree ha cs h.2]
 | .mp id ver, h => by simp only [HV.ren]; rw [ha ver (blt_lt h)]
 | .yl id ver, h => by simp only [HV.ren]; rw [ha ver (blt_lt h)]
 | .it id ver, h => by simp only [HV.ren]; rw [ha ver (blt_lt h)]
theorem renL_agree (ha : Agree n ρ ρ') : ∀ cs : List HV, scL n cs = true → renL ρ cs = renL ρ' cs
 | [], _ => rfl
 | c :: cs, h => by
  simp only [scL, Bool.and_eq_true] at h
  simp only [renL]
  rw [HV.ren_agree ha c h.1, renL_agree ha cs h.2]
end
theorem renS_agree (ha : Agree n ρ ρ') : ∀ l, scS n l = true → renS ρ l = renS ρ' l
 | [], _ => rfl
 | (_, c) :: cs, h => by
  simp only [scS, Bool.and_eq_true] at h
  simp only [renS]
  rw [HV.ren_agree ha c h.1, renS_agree ha cs h.2]
theorem renE_agree (ha : Agree n ρ ρ') : ∀ l, scE n l = true → renE ρ l = renE ρ' l
 | [], _ => rfl
 | (_, c) :: cs, h => by
  simp only [scE, Bool.and_eq_true] at h
  simp only [renE]
  rw [HV.ren_agree ha c h.1, renE_agree ha cs h.2]
theorem AObj.ren_agree (ha : Agree n ρ ρ') : ∀ o : AObj, o.sc n = true → o.ren ρ = o.ren ρ'
 | .arr k e cs, h => congrArg (AObj.arr k e) (renL_agree ha cs h)
 | .map es, h => congrArg AObj.map (renE_agree ha es h)
 | .iter mid mver seen cur, h => by simp only [AObj.ren]; rw [ha mver (blt_lt h)]
 | .loop st pend f n' snap ps a b, h => by
  simp only [AObj.sc, Bool.and_eq_true] at h
  simp only [AObj.ren]; rw [ha f (blt_lt h.1), renS_agree ha snap h.2]
 | .kmap es, _ => rfl
theorem renH_agree (ha : Agree n ρ ρ') : ∀ l, scH n l = true → renH ρ l = renH ρ' l
 | [], _ => rfl
 | (i, v, o) :: cs, h => by
  simp only [scH, Bool.and_eq_true] at h
  simp only [renH]
  rw [ha v (blt_lt h.1.1.2), AObj.ren_agree ha o h.1.2, renH_agree ha cs h.2]
theorem AS.ren_agree (ha : Agree n ρ ρ') (s : AS) (h : s.sc n = true) : s.ren ρ = s.ren ρ' := by
 simp only [AS.sc, Bool.and_eq_true] at h
 simp only [AS.ren]
 rw [renS_agree ha _ h.1, renH_agree ha _ h.2]
theorem blt_mono {a : Nat} (hm : n ≤ m) (h : Nat.blt a n = true) : Nat.blt a m = true := by
 have := blt_lt h
 simp [Nat.blt_eq]; omega
mutual
theorem HV.sc_mono (hm : n ≤ m) : ∀ h : HV, h.sc n = true → h.sc m = true
 | .int _ _, _ => rfl
 | .bool _, _ => rfl
 | .str _, _ => rfl
 | .v _, _ => rfl
 | .agg cs, h => scL_mono hm cs h
 | .tup cs, h => scL_mono hm cs h
 | .sl k _ cs, h => scL_mono hm cs h
 | .ar id ver k off _, h => blt_mono hm h
 | .ptr id ver off, h => blt_mono hm h
 | .fptr cs off, h => scL_mono hm cs h
 | .fn f fs cs, h => by
  simp only [HV.sc, Bool.and_eq_true] at h ⊢
  exact ⟨scL_mono hm fs h.1, scL_mono hm cs h.2⟩
 | .mp id ver, h => blt_mono hm h
 | .yl id ver, h => blt_mono hm h
 | .it id ver, h => blt_mono hm h
theorem scL_mono (hm : n ≤ m) : ∀ cs : List HV, scL n cs = true → scL m cs = true
 | [], _ => rfl
 | c :: cs, h => by
  simp only [scL, Bool.and_eq_true] at h ⊢
  exact ⟨HV.sc_mono hm c h.1, scL_mono hm cs h.2⟩
end
theorem scS_mono (hm : n ≤ m) : ∀ l, scS n l = true → scS m l = true
 | [], _ => rfl
 | (_, c) :: cs, h => by
  simp only [scS, Bool.and_eq_true] at h ⊢
  exact ⟨HV.sc_mono hm c h.1, scS_mono hm cs h.2⟩
theorem scE_mono (hm : n ≤ m) : ∀ l, scE n l = true → scE m l = true
 | [], _ => rfl
 | (_, c) :: cs, h => by
  simp only [scE, Bool.and_eq_true] at h ⊢
  exact ⟨HV.sc_mono hm c h.1, scE_mono hm cs h.2⟩
theorem AObj.sc_mono (hm : n ≤ m) : ∀ o : AObj, o.sc n = true → o.sc m = true
 | .arr k e cs, h => scL_mono hm cs h
 | .map es, h => scE_mono hm es h
 | .iter mid mver seen cur, h => blt_mono hm h
 | .loop st pend f n' snap ps a b, h => by
  simp only [AObj.sc, Bool.and_eq_true] at h ⊢
  exact ⟨blt_mono hm h.1, scS_mono hm snap h.2⟩
 | .kmap es, _ => rfl
theorem scH_mono (hm : n ≤ m) : ∀ l, scH n l = true → scH m l = true
 | [], _ => rfl
 | (i, v, o) :: cs, h => by
  simp only [scH, Bool.and_eq_true] at h ⊢
  exact ⟨⟨⟨blt_mono hm h.1.1.1, blt_mono hm h.1.1.2⟩, AObj.sc_mono hm o h.1.2⟩, scH_mono hm cs h.2⟩
theorem AS.sc_mono (hm : n ≤ m) (s : AS) (h : s.sc n = true) : s.sc m = true := by
 simp only [AS.sc, Bool.and_eq_true] at h ⊢
 exact ⟨scS_mono hm _ h.1, scH_mono hm _ h.2⟩
theorem scS_set : ∀ (l : List (Nat × HV)) (t : Nat) (h : HV), scS n l = true → h.sc n = true → scS n (sset l t h) = true
 | [], t, h, _, hh => by simp [sset, scS, hh]
 | (i, g) :: l, t, h, hl, hh => by
  simp only [scS, Bool.and_eq_true] at hl
  simp only [sset]
  split
  ·simp [scS, hh, hl.2]
  ·simp only [scS, Bool.and_eq_true]
   exact ⟨hl.1, scS_set l t h hl.2 hh⟩
theorem scH_set : ∀ (l : Heap) (t v : Nat) (o : AObj), scH n l = true → t < n → v < n → o.sc n = true → scH n (hset l t v o) = true
 | [], t, v, o, _, ht, hv, hh => by simp [hset, scH, hh, Nat.blt_eq, hv, ht]
 | (i, w, g) :: l, t, v, o, hl, ht, hv, hh => by
  simp only [scH, Bool.and_eq_true] at hl
  simp only [hset]
  split
  ·rename_i e
   subst e
   simp [scH, hh, hl.2, Nat.blt_eq, hv, ht]
  ·simp only [scH, Bool.and_eq_true]
   exact ⟨hl.1, scH_set l t v o hl.2 ht hv hh⟩
theorem sc_put {s : AS} {d : Option Tmp} {h : HV} (hs : s.sc n = true) (hh : h.sc n = true) : (s.put d h).sc n = true := by
 cases d with
 | none => exact hs
 | some t =>
  simp only [AS.sc, Bool.and_eq_true] at hs
  simp only [AS.put, AS.sc, Bool.and_eq_true]
  exact ⟨scS_set _ _ _ hs.1 hh, hs.2⟩
theorem sc_heap {s : AS} {id v : Nat} {o : AObj} (hs : s.sc n = true) (ht : id < n) (hv : v < n) (hh : o.sc n = true) : ({ s with heap := hset s.heap id v o } : AS).sc n = true := by
 simp only [AS.sc, Bool.and_eq_true] at hs ⊢
 exact ⟨hs.1, scH_set _ _ _ _ hs.2 ht hv hh⟩
theorem sc_get {l : List (Nat × HV)} {t : Nat} {h : HV} (hl : scS n l = true) (hg : sget l t = some h) : h.sc n = true := by
 induction l with
 | nil => cases hg
 | cons x l ih =>
  obtain ⟨i, g⟩ := x
  simp only [scS, Bool.and_eq_true] at hl
  simp only [sget] at hg
  split at hg
  ·cases hg; exact hl.1
  ·exact ih hl.2 hg
theorem sch_get {l : Heap} {id v : Nat} {o : AObj} (hl : scH n l = true) (hg : hget l id = some (v, o)) : (id < n ∧ v < n) ∧ o.sc n = true := by
 induction l with
 | nil => cases hg
 | cons x l ih =>
  obtain ⟨i, w, g⟩ := x
  simp only [scH, Bool.and_eq_true] at hl
  simp only [hget] at hg
  split at hg
  ·rename_i e; subst e; cases hg; exact ⟨⟨blt_lt hl.1.1.1, blt_lt hl.1.1.2⟩, hl.1.2⟩
  ·exact ih hl.2 hg
end
end Go.AW
namespace Go.AW
open Go
noncomputable def sgetR (l : List (Nat × HV)) : Nat → Option HV :=
 List.rec (motive := fun _ => Nat → Option HV) (fun _ => none) (fun p _ ih t => Bool.rec (motive := fun _ => Option HV) (ih t) (some p.2) (Nat.beq t p.1)) l
noncomputable def ssetR (l : List (Nat × HV)) : Nat → HV → List (Nat × HV) :=
 List.rec (motive := fun _ => Nat → HV → List (Nat × HV)) (fun t v => [(t, v)]) (fun p l ih t v => Bool.rec (motive := fun _ => List (Nat × HV)) (p :: ih t v) ((p.1, v) :: l) (Nat.beq t p.1)) l
noncomputable def hgetR (l : Heap) : Nat → Option (Nat × AObj) :=
 List.rec (motive := fun _ => Nat → Option (Nat × AObj)) (fun _ => none) (fun p _ ih t => Bool.rec (motive := fun _ => Option (Nat × AObj)) (ih t) (some (p.2.1, p.2.2)) (Nat.beq t p.1)) l
noncomputable def hsetR (l : Heap) : Nat → Nat → AObj → Heap :=
 List.rec (motive := fun _ => Nat → Nat → AObj → Heap) (fun t v o => [(t, v, o)]) (fun p l ih t v o => Bool.rec (motive := fun _ => Heap) (p :: ih t v o) ((p.1, v, o) :: l) (Nat.beq t p.1)) l
theorem beq_if {α : Type} (a b : Nat) (x y : α) : Bool.rec (motive := fun _ => α) y x (Nat.beq a b) = if a = b then x else y := by
 by_cases h : a = b
 ·subst h
  rw [if_pos rfl, Nat.beq_refl]
 ·rw [if_neg h]
  have : Nat.beq a b = false := by
   cases hb : Nat.beq a b with
   | false => rfl
   | true => exact absurd (Nat.eq_of_beq_eq_true hb) h
  rw [this]
theorem sgetR_eq : sgetR = sget := by
 funext l
 induction l with
 | nil => rfl
 | cons p l ih =>
  funext t
  obtain ⟨i, v⟩ := p
  show Bool.rec (motive := fun _ => Option HV) (sgetR l t) (some v) (Nat.beq t i) = _
  rw [beq_if, ih]
  rfl
theorem ssetR_eq : ssetR = sset := by
 funext l
 induction l with
 | nil => rfl
 | cons p l ih =>
  funext t v
  obtain ⟨i, u⟩ := p
  show Bool.rec (motive := fun _ => List (Nat × HV)) ((i, u) :: ssetR l t v) ((i, v) :: l) (Nat.beq t i) = _
  rw [beq_if, ih]
  rfl
theorem hgetR_eq : hgetR = hget := by
 funext l
 induction l with
 | nil => rfl
 | cons p l ih =>
  funext t
  obtain ⟨i, v, o⟩ := p
  show Bool.rec (motive := fun _ => Option (Nat × AObj)) (hgetR l t) (some (v, o)) (Nat.beq t i) = _
  rw [beq_if, ih]
  rfl
theorem hsetR_eq : hsetR = hset := by
 funext l
 induction l with
 | nil => rfl
 | cons p l ih =>
  funext t v o
  obtain ⟨i, u, q⟩ := p
  show Bool.rec (motive := fun _ => Heap) ((i, u, q) :: hsetR l t v o) ((i, v, o) :: l) (Nat.beq t i) = _
  rw [beq_if, ih]
  rfl
noncomputable def AS.evR (s : AS) (x : Operand) : Option HV := match x with
 | .tmp t => sgetR s.slots t
 | .const v => constHV v
 | .global g => some (.v (.pointer (some ⟨g, 0, none⟩)))
 | .func f => some (.fn (.func f) [] [])
theorem evR_eq : AS.evR = AS.ev := by
 funext s x
 cases x with
 | tmp t => show sgetR s.slots t = sget s.slots t; rw [sgetR_eq]
 | const v => rfl
 | global g => rfl
 | func f => rfl
noncomputable def AS.putR (s : AS) (d : Option Tmp) (h : HV) : AS := match d with
 | some t => { s with slots := ssetR s.slots t h }
 | none => s
theorem putR_eq : AS.putR = AS.put := by
 funext s d h
 cases d with
 | none => rfl
 | some t => show ({ s with slots := ssetR s.slots t h } : AS) = { s with slots := sset s.slots t h }; rw [ssetR_eq]
noncomputable def aslR (s : AS) (lo : Option Operand) (d : Int) : Option Int := match lo with
 | none => some d
 | some x => match s.evR x with
  | some (.int _ n) => some n
  | _ => none
theorem aslR_eq : aslR = asl := by
 funext s lo d
 unfold aslR asl
 rw [evR_eq]
 rfl
noncomputable def apartsR (s : AS) (ps : List (Nat × Operand)) : Option (List (Nat × HV)) := ps.mapM fun p => (s.evR p.2).map fun h => (p.1, h)
theorem apartsR_eq : apartsR = aparts := by
 funext s ps
 unfold apartsR aparts
 rw [evR_eq]
def keepL (l : List (Nat × HV)) : List Nat → List (Nat × HV)
 | [] => []
 | t :: ts => match sget l t with
  | some v => (t, v) :: keepL l ts
  | none => keepL l ts
noncomputable def keepK {α : Type} (l : List (Nat × HV)) (ks : List Nat) : (List (Nat × HV) → α) → α :=
 List.rec (motive := fun _ => (List (Nat × HV) → α) → α) (fun k => k []) (fun t _ ih k => match sgetR l t with
  | some v => ih (fun l' => k ((t, v) :: l'))
  | none => ih k) ks
theorem keepK_eq {α : Type} (l : List (Nat × HV)) : ∀ (ks : List Nat) (k : List (Nat × HV) → α), keepK l ks k = k (keepL l ks)
 | [], _ => rfl
 | t :: ts, k => by
  show (match sgetR l t with
   | some v => keepK l ts (fun l' => k ((t, v) :: l'))
   | none => keepK l ts k) = _
  rw [sgetR_eq]
  simp only [keepL]
  cases sget l t with
  | none => exact keepK_eq l ts k
  | some v => exact keepK_eq l ts _
theorem keepL_get {l : List (Nat × HV)} : ∀ {ks : List Nat} {t : Nat} {h : HV}, sget (keepL l ks) t = some h → sget l t = some h
 | [], _, _, h => by cases h
 | k :: ks, t, g, h => by
  simp only [keepL] at h
  cases hk : sget l k with
  | none => rw [hk] at h; exact keepL_get h
  | some v =>
   rw [hk] at h
   simp only [sget] at h
   split at h
   ·rename_i e
    subst e
    rw [hk]
    exact h
   ·exact keepL_get h
theorem keepL_sc {n : Nat} {l : List (Nat × HV)} (hl : scS n l = true) : ∀ ks : List Nat, scS n (keepL l ks) = true
 | [] => rfl
 | k :: ks => by
  simp only [keepL]
  cases hk : sget l k with
  | none => exact keepL_sc hl ks
  | some v =>
   simp only [scS, Bool.and_eq_true]
   exact ⟨sc_get hl hk, keepL_sc hl ks⟩
theorem keepL_le (ρ : Nat → Nat) (s : AS) (ks : List Nat) : (s.ren ρ).le ((⟨keepL s.slots ks, s.heap⟩ : AS).ren ρ) := by
 refine ⟨fun t hv h => ?_, fun _ _ h => h⟩
 simp only [AS.ren] at h ⊢
 rw [sget_ren] at h ⊢
 cases hk : sget (keepL s.slots ks) t with
 | none => rw [hk] at h; cases h
 | some v => rw [hk] at h; rw [keepL_get hk]; exact h
set_option linter.unusedSimpArgs false
def TabOk (P : Program) (T : TypeId → Option TyI) : Prop := ∀ t x, T t = some x → ty P t = some x
def sload (T : TyI) (cs : List HV) (off : Nat) : Option HV :=
 bif aggD T.desc then (bif Nat.ble (off + T.size) cs.length then some (.agg ((cs.drop off).take T.size)) else none) else cs[off]?
theorem sload_sound {T : TyI} {cs : List HV} {off : Nat} {h : HV} (hs : sload T cs off = some h) {ρ : Nat → Nat} {R : HV → Prop} (hr : R (h.ren ρ)) : loadK T (renL ρ cs) off R := by
 unfold sload at hs
 unfold loadK
 cases ha : aggD T.desc with
 | true =>
  rw [ha] at hs
  simp only [cond_true, if_true] at hs ⊢
  by_cases hb : Nat.ble (off + T.size) cs.length = true
  ·rw [hb] at hs
   cases hs
   refine ⟨by rw [renL_len]; exact Nat.le_of_ble_eq_true hb, ?_⟩
   simpa only [HV.ren, renL_take, renL_drop] using hr
  ·simp [Bool.not_eq_true _ ▸ hb] at hs
 | false =>
  rw [ha] at hs
  simp only [cond_false, Bool.false_eq_true, if_false] at hs ⊢
  rw [renL_get, hs]
  exact hr
def sbin (op : BinOp) (x y : HV) : Option HV :=
 match op, x, y with
 | .add, .int k a, .int k' b => if k = k' then some (.int k (k.wrap (a + b))) else none
 | .sub, .int k a, .int k' b => if k = k' then some (.int k (k.wrap (a - b))) else none
 | .mul, .int k a, .int k' b => if k = k' then some (.int k (k.wrap (a * b))) else none
 | .quo, .int k a, .int k' b => if k = k' ∧ b ≠ 0 then some (.int k (k.wrap (a.tdiv b))) else none
 | .rem, .int k a, .int k' b => if k = k' ∧ b ≠ 0 then some (.int k (a.tmod b)) else none
 | .eql, .int k a, .int k' b => if k = k' then some (.bool (decide (a = b))) else none
 | .neq, .int k a, .int k' b => if k = k' then some (.bool (decide (a ≠ b))) else none
 | .lss, .int k a, .int k' b => if k = k' then some (.bool (decide (a < b))) else none
 | .leq, .int k a, .int k' b => if k = k' then some (.bool (decide (a ≤ b))) else none
 | .gtr, .int k a, .int k' b => if k = k' then some (.bool (decide (b < a))) else none
 | .geq, .int k a, .int k' b => if k = k' then some (.bool (decide (b ≤ a))) else none
 | .add, .str a, .str b => if a.length + b.length ≤ maxLen then some (.str (a ++ b)) else none
 | .eql, .str a, .str b => some (.bool (decide (a = b)))
 | .neq, .str a, .str b => some (.bool (decide (a ≠ b)))
 | .lss, .str a, .str b => some (.bool (Op.bytesLess a b))
 | .gtr, .str a, .str b => some (.bool (!(Op.bytesLess a b || decide (a = b))))
 | .leq, .str a, .str b => some (.bool (Op.bytesLess a b || decide (a = b)))
 | .geq, .str a, .str b => some (.bool (!(Op.bytesLess a b)))
 | .shl, .int k a, .int _ b => if 0 ≤ b then some (.int k (k.wrap (a * 2 ^ min b.toNat k.bits))) else none
 | .shr, .int k a, .int _ b => if 0 ≤ b then some (.int k (a.fdiv (2 ^ min b.toNat k.bits))) else none
 | .and, .int k a, .int k' b => if k = k' then some (.int k (k.wrap (BitVec.ofInt k.bits a &&& BitVec.ofInt k.bits b).toNat)) else none
 | .or, .int k a, .int k' b => if k = k' then some (.int k (k.wrap (BitVec.ofInt k.bits a ||| BitVec.ofInt k.bits b).toNat)) else none
 | .xor, .int k a, .int k' b => if k = k' then some (.int k (k.wrap (BitVec.ofInt k.bits a ^^^ BitVec.ofInt k.bits b).toNat)) else none
 | _, _, _ => none
theorem sbin_sound {op : BinOp} {x y h : HV} (hs : sbin op x y = some h) {ρ : Nat → Nat} {R : HV → Prop} (hr : R (h.ren ρ)) : abin op (x.ren ρ) (y.ren ρ) R := by
  unfold sbin at hs
  split at hs <;> first
    | (cases hs; exact hr)
    | (split at hs
       · rename_i hc
         cases hs
         first
           | exact ⟨hc, hr⟩
           | exact ⟨hc.1, hc.2, hr⟩
       · cases hs)
    | cases hs
theorem asl_ren (ρ : Nat → Nat) (s : AS) (lo : Option Operand) (d : Int) : asl (s.ren ρ) lo d = asl s lo d := by
 unfold asl
 cases lo with
 | none => rfl
 | some x =>
  simp only [ev_ren]
  cases s.ev x with
  | none => rfl
  | some h => cases h <;> rfl
def sElem (T : TypeId → Option TyI) (t : TypeId) : Option Nat :=
 match T t with
 | some ⟨.slice e, _, _, _⟩ => (T e).map (·.size)
 | some ⟨.array _ e, _, _, _⟩ => (T e).map (·.size)
 | _ => none
def sField (T : TypeId → Option TyI) (S : TypeId) (f : Nat) : Option (Nat × TyI) :=
 match T S with
 | some ⟨.struct fs, _, _, _⟩ => match fs[f]? with
  | some fd => match T fd.type with
   | some U => if U.size = 0 then none else some (fd.offset, U)
   | none => none
  | none => none
 | _ => none
section
variable {P : Program} {T : TypeId → Option TyI}
theorem sElem_sound (hT : TabOk P T) {t : TypeId} {k : Nat} (h : sElem T t = some k) : elemSize P t = some k := by
 unfold sElem at h
 split at h
 ·rename_i e _ _ _ ht
  obtain ⟨U, hU, rfl⟩ := Option.map_eq_some_iff.1 h
  simp [elemSize, hT _ _ ht, hT _ _ hU]
 ·rename_i n e _ _ _ ht
  obtain ⟨U, hU, rfl⟩ := Option.map_eq_some_iff.1 h
  simp [elemSize, hT _ _ ht, hT _ _ hU]
 ·cases h
theorem sField_sound (hT : TabOk P T) {S : TypeId} {f : Nat} {r : Nat × TyI} (h : sField T S f = some r) : fieldOf P S f = some r := by
 unfold sField at h
 split at h
 ·rename_i fs _ _ _ ht
  split at h
  ·rename_i fd hfd
   split at h
   ·rename_i U hU
    split at h
    ·cases h
    ·rename_i h0
     cases h
     simp [fieldOf, hT _ _ ht, hfd, hT _ _ hU, h0]
   ·cases h
  ·cases h
 ·cases h
end
noncomputable def aliveB (H : Heap) (id ver : Nat) : Bool := match hgetR H id with
 | some (v, _) => Nat.beq v ver
 | none => false
theorem aliveB_sound {H : Heap} {id ver : Nat} {ρ : Nat → Nat} (h : aliveB H id ver = true) : alive (renH ρ H) id (ρ ver) := by
 unfold aliveB at h
 rw [hgetR_eq] at h
 unfold alive
 rw [hget_ren]
 cases hg : hget H id with
 | none => rw [hg] at h; cases h
 | some x =>
  obtain ⟨v, o⟩ := x
  rw [hg] at h
  have : v = ver := Nat.eq_of_beq_eq_true h
  simp [this]
def guardO {α : Type} (c : Bool) (x : Option α) : Option α := match c with
 | true => x
 | false => none
theorem guardO_some {α : Type} {c : Bool} {x : Option α} {y : α} (h : guardO c x = some y) : c = true ∧ x = some y := by
 cases c with
 | true => exact ⟨rfl, h⟩
 | false => cases h
def sbinT (T : TypeId → Option TyI) (op : BinOp) (tx : TypeId) (x y : HV) : Option HV :=
 match x, y with
 | .bool a, .bool b => match op, T tx with
  | .eql, some ⟨.bool, _, _, _⟩ => some (.bool (a == b))
  | .neq, some ⟨.bool, _, _, _⟩ => some (.bool (!(a == b)))
  | _, _ => none
 | _, _ => sbin op x y
theorem sbinT_sound {P : Program} {T : TypeId → Option TyI} (hT : TabOk P T) {op : BinOp} {tx : TypeId} {x y h : HV} (hs : sbinT T op tx x y = some h) {ρ : Nat → Nat} {R : HV → Prop} (hr : R (h.ren ρ)) : abinT P op tx (x.ren ρ) (y.ren ρ) R := by
 unfold sbinT at hs
 split at hs
 ·split at hs
  ·rename_i hU
   cases hs
   simp only [HV.ren, abinT, hT _ _ hU]
   exact hr
  ·rename_i hU
   cases hs
   simp only [HV.ren, abinT, hT _ _ hU]
   exact hr
  ·cases hs
 ·rename_i hno
  have := sbin_sound hs hr
  unfold abinT
  split
  ·rename_i e1 e2
   exfalso
   cases x with
   | bool a => cases y with
    | bool b => exact hno _ _ rfl rfl
    | _ => cases e2
   | _ => cases e1
  ·rename_i e1 e2
   exfalso
   cases x with
   | agg a => simp [sbin] at hs
   | _ => cases e1
  ·exact this
noncomputable def svPick (s : AS) (c a b : Operand) : Option HV := match s.evR c, s.evR a, s.evR b with
  | some (.bool true), some h, some _ => some h
  | some (.bool false), some _, some h => some h
  | _, _, _ => none
noncomputable def svLoad (T : TypeId → Option TyI) (s : AS) (t : TypeId) (a : Operand) : Option HV := match T t, s.evR a with
  | some U, some (.fptr cs off) => sload U cs off
  | some U, some (.ptr id ver off) => match hgetR s.heap id with
   | some (ver', .arr _ _ cs) => guardO (Nat.beq ver ver') (sload U cs off)
   | _ => none
  | _, _ => none
noncomputable def svNil (s : AS) (x : Operand) : Option HV := match s.evR x with
  | some (.ptr id ver off) => guardO (aliveB s.heap id ver) (some (.ptr id ver off))
  | some (.fptr cs off) => some (.fptr cs off)
  | _ => none
noncomputable def svBin (T : TypeId → Option TyI) (s : AS) (op : BinOp) (tx : TypeId) (x y : Operand) : Option HV := match s.evR x, s.evR y with
  | some h, some g => sbinT T op tx h g
  | _, _ => none
noncomputable def svUn (s : AS) (op : UnOp) (x : Operand) : Option HV := match op, s.evR x with
  | .not, some (.bool b) => some (.bool (!b))
  | .neg, some (.int k n) => some (.int k (k.wrap (0 - n)))
  | _, _ => none
noncomputable def svConv (T : TypeId → Option TyI) (s : AS) (src dst : TypeId) (x : Operand) : Option HV := match T src, T dst, s.evR x with
  | some _, some ⟨.int k, _, _, _⟩, some (.int _ n) => some (.int k (k.wrap n))
  | some _, some ⟨.string, _, _, _⟩, some (.int _ n) => some (.str (Utf8.encode n).data.toList)
  | some _, some ⟨.string, _, _, _⟩, some (.str l) => some (.str l)
  | _, _, _ => none
noncomputable def svFunc (s : AS) (fn : Fn) (first caps : Array Operand) : Option HV := match first.toList.mapM s.evR, caps.toList.mapM s.evR with
  | some fs, some cs => some (.fn fn fs cs)
  | _, _ => none
noncomputable def svFieldAddr (T : TypeId → Option TyI) (s : AS) (S : TypeId) (x : Operand) (f : Nat) : Option HV := match sField T S f, s.evR x with
  | some (o, _), some (.ptr id ver off) => guardO (aliveB s.heap id ver) (some (.ptr id ver (off + o)))
  | some (o, _), some (.fptr cs off) => some (.fptr cs (off + o))
  | _, _ => none
noncomputable def svField (T : TypeId → Option TyI) (s : AS) (S : TypeId) (x : Operand) (f : Nat) : Option HV := match sField T S f, s.evR x with
  | some (o, U), some (.agg cs) => sload U cs o
  | _, _ => none
noncomputable def svIndexAddr (T : TypeId → Option TyI) (s : AS) (t : TypeId) (x i : Operand) : Option HV := match T t, sElem T t, s.evR x, s.evR i with
  | some ⟨.slice _, _, _, _⟩, some k', some (.sl k n cs), some (.int _ j) => guardO (decide (k = k' ∧ 0 ≤ j ∧ j < n)) (some (.fptr cs (j.toNat * k)))
  | some ⟨.slice _, _, _, _⟩, some k', some (.ar id ver k off n), some (.int _ j) => guardO (decide (k = k' ∧ 0 ≤ j ∧ j < n)) (guardO (aliveB s.heap id ver) (some (.ptr id ver (off + j.toNat * k))))
  | some ⟨.array len _, _, _, _⟩, some k', some (.ptr id ver off), some (.int _ j) => guardO (decide (0 ≤ j ∧ j < len)) (guardO (aliveB s.heap id ver) (some (.ptr id ver (off + j.toNat * k'))))
  | some ⟨.array len _, _, _, _⟩, some k', some (.fptr cs off), some (.int _ j) => guardO (decide (0 ≤ j ∧ j < len)) (some (.fptr cs (off + j.toNat * k')))
  | _, _, _, _ => none
noncomputable def svIndex (T : TypeId → Option TyI) (s : AS) (t : TypeId) (x i : Operand) : Option HV := match T t, s.evR x, s.evR i with
  | some ⟨.string, _, _, _⟩, some (.str l), some (.int _ j) => guardO (decide (0 ≤ j)) (match l[j.toNat]? with
   | some b => some (.int .u8 b.toNat)
   | none => none)
  | some ⟨.array len e, _, _, _⟩, some (.agg cs), some (.int _ j) => guardO (decide (0 ≤ j ∧ j < len)) (match T e with
   | some U => sload U cs (j.toNat * U.size)
   | none => none)
  | _, _, _ => none
noncomputable def svExtract (s : AS) (x : Operand) (i : Nat) : Option HV := match s.evR x with
  | some (.tup vs) => vs[i]?
  | _ => none
noncomputable def svSlice (T : TypeId → Option TyI) (s : AS) (t : TypeId) (x : Operand) (lo hi : Option Operand) : Option HV := match T t, sElem T t, s.evR x with
  | some ⟨.string, _, _, _⟩, _, some (.str l) => match aslR s lo 0, aslR s hi l.length with
   | some a, some b => guardO (decide (0 ≤ a ∧ a ≤ b ∧ b ≤ l.length)) (some (.str ((l.take b.toNat).drop a.toNat)))
   | _, _ => none
  | some ⟨.slice _, _, _, _⟩, some k', some (.sl k n cs) => match aslR s lo 0, aslR s hi n with
   | some a, some b => guardO (decide (k = k' ∧ 0 ≤ a ∧ a ≤ b ∧ b ≤ n)) (some (.sl k (b.toNat - a.toNat) ((cs.take (b.toNat * k)).drop (a.toNat * k))))
   | _, _ => none
  | some ⟨.slice _, _, _, _⟩, some k', some (.ar id ver k off n) => match aslR s lo 0, aslR s hi n with
   | some a, some b => guardO (decide (k = k' ∧ 0 ≤ a ∧ a ≤ b ∧ b ≤ n ∧ (a = 0 ∨ a < n))) (guardO (aliveB s.heap id ver) (some (.ar id ver k (off + a.toNat * k) (b.toNat - a.toNat))))
   | _, _ => none
  | _, _, _ => none
noncomputable def svCall (T : TypeId → Option TyI) (s : AS) (c : Call) : Option HV := match c.callee, c.argTypes.toList, c.args.toList with
  | .builtin .len, [t], [x] => match T t, s.evR x with
   | some ⟨.string, _, _, _⟩, some (.str l) => some (.int .i64 l.length)
   | some ⟨.slice _, _, _, _⟩, some (.sl _ n _) => some (.int .i64 n)
   | some ⟨.slice _, _, _, _⟩, some (.ar id ver _ _ n) => guardO (aliveB s.heap id ver) (some (.int .i64 n))
   | some ⟨.slice _, _, _, _⟩, some (.v (.slice none 0 0)) => some (.int .i64 0)
   | some ⟨.map _ _, _, _, _⟩, some (.v (.map none)) => some (.int .i64 0)
   | some ⟨.map _ _, _, _, _⟩, some (.mp id ver) => match hgetR s.heap id with
    | some (ver', .map es) => guardO (Nat.beq ver ver' && Nat.ble es.length maxLen) (some (.int .i64 es.length))
    | _ => none
   | _, _ => none
  | .builtin .min, _, [x, y] => match s.evR x, s.evR y with
   | some (.int k a), some (.int k' c) => guardO (decide (k = k')) (some (.int k (min a c)))
   | _, _ => none
  | .builtin .max, _, [x, y] => match s.evR x, s.evR y with
   | some (.int k a), some (.int k' c) => guardO (decide (k = k')) (some (.int k (max a c)))
   | _, _ => none
  | .builtin .min, _, [x, y, z] => match s.evR x, s.evR y, s.evR z with
   | some (.int k a), some (.int k' c), some (.int k'' d) => guardO (decide (k = k' ∧ k = k'')) (some (.int k (min (min a c) d)))
   | _, _, _ => none
  | .builtin .max, _, [x, y, z] => match s.evR x, s.evR y, s.evR z with
   | some (.int k a), some (.int k' c), some (.int k'' d) => guardO (decide (k = k' ∧ k = k'')) (some (.int k (max (max a c) d)))
   | _, _, _ => none
  | _, _, _ => none
noncomputable def sval (T : TypeId → Option TyI) (op : Op) (s : AS) : Option HV :=
 match op with
 | .move x => s.evR x
 | .assign x => s.evR x
 | .pick c a b => svPick s c a b
 | .load t a => svLoad T s t a
 | .nilCheck x => svNil s x
 | .binOp op tx x y _ => svBin T s op tx x y
 | .unOp op _ x => svUn s op x
 | .convert src dst x => svConv T s src dst x
 | .makeFunc fn first caps => svFunc s fn first caps
 | .fieldAddr S x f => svFieldAddr T s S x f
 | .field S x f => svField T s S x f
 | .indexAddr t x i => svIndexAddr T s t x i
 | .index t x i => svIndex T s t x i
 | .extract x i => svExtract s x i
 | .slice t x lo hi none => svSlice T s t x lo hi
 | .call c => svCall T s c
 | _ => none
theorem renE_len (ρ : Nat → Nat) : ∀ l, (renE ρ l).length = l.length
 | [] => rfl
 | _ :: l => by simp [renE, renE_len ρ l]
theorem hget_s (ρ : Nat → Nat) {s : AS} {id v : Nat} {o : AObj} (h : hget s.heap id = some (v, o)) : hget (s.ren ρ).heap id = some (ρ v, o.ren ρ) := by
 show hget (renH ρ s.heap) id = _
 rw [hget_ren, h]
 rfl
section
variable {P : Program} {T : TypeId → Option TyI} {s : AS} {ρ : Nat → Nat} {R : HV → Prop}
theorem sval_sound (hT : TabOk P T) {op : Op} {r : HV} (h : sval T op s = some r) (hr : R (r.ren ρ)) : aval P op (s.ren ρ) R := by
 unfold sval at h
 simp only [evR_eq, hgetR_eq, hsetR_eq, sgetR_eq, putR_eq, aslR_eq, apartsR_eq] at h
 split at h
 ·simp only [aval, ev_ren, h, Option.map_some]; exact hr
 ·simp only [aval, ev_ren, h, Option.map_some]; exact hr
 ·-- pick
  unfold svPick at h
  try simp only [evR_eq, hgetR_eq, hsetR_eq, sgetR_eq, putR_eq, aslR_eq, apartsR_eq] at h
  rename_i c a b
  split at h
  ·rename_i h1 g hc ha hb
   cases h
   simp only [aval, ev_ren, hc, ha, hb, Option.map_some, HV.ren]
   split
   all_goals simp_all
  ·rename_i g h1 hc ha hb
   cases h
   simp only [aval, ev_ren, hc, ha, hb, Option.map_some, HV.ren]
   split
   all_goals simp_all
  ·cases h
 ·-- load
  unfold svLoad at h
  try simp only [evR_eq, hgetR_eq, hsetR_eq, sgetR_eq, putR_eq, aslR_eq, apartsR_eq] at h
  split at h
  ·rename_i U cs off hU hx
   simp only [aval, ev_ren, hT _ _ hU, hx, Option.map_some, HV.ren]
   exact sload_sound h hr
  ·rename_i U id ver off hU hx
   split at h
   ·rename_i ver' k e cs hg
    obtain ⟨hv, h'⟩ := guardO_some h
    have hv := Nat.eq_of_beq_eq_true hv
    subst hv
    simp only [aval, ev_ren, hT _ _ hU, hx, Option.map_some, HV.ren, hget_s ρ hg, AObj.ren]
    exact ⟨trivial, sload_sound h' hr⟩
   ·cases h
  ·cases h
 ·-- nilCheck
  unfold svNil at h
  try simp only [evR_eq, hgetR_eq, hsetR_eq, sgetR_eq, putR_eq, aslR_eq, apartsR_eq] at h
  split at h
  ·rename_i id ver off hx
   obtain ⟨hv, h⟩ := guardO_some h
   cases h
   have := aliveB_sound (ρ := ρ) hv
   simp only [aval, ev_ren, hx, Option.map_some, HV.ren]
   unfold alive at this
   have e : (s.ren ρ).heap = renH ρ s.heap := rfl
   rw [e]
   cases hh : hget (renH ρ s.heap) id with
   | none => rw [hh] at this; exact this
   | some x => rw [hh] at this; exact ⟨this.symm, hr⟩
  ·rename_i cs off hx
   cases h
   simp only [aval, ev_ren, hx, Option.map_some, HV.ren]
   exact hr
  ·cases h
 ·-- binOp
  unfold svBin at h
  try simp only [evR_eq, hgetR_eq, hsetR_eq, sgetR_eq, putR_eq, aslR_eq, apartsR_eq] at h
  split at h
  ·rename_i x y hx hy
   simp only [aval, ev_ren, hx, hy, Option.map_some]
   exact sbinT_sound hT h hr
  ·cases h
 ·-- unOp
  unfold svUn at h
  try simp only [evR_eq, hgetR_eq, hsetR_eq, sgetR_eq, putR_eq, aslR_eq, apartsR_eq] at h
  split at h
  ·rename_i b hx
   cases h
   simp only [aval, ev_ren, hx, Option.map_some, HV.ren]
   exact hr
  ·rename_i k n hx
   cases h
   simp only [aval, ev_ren, hx, Option.map_some, HV.ren]
   exact hr
  ·cases h
 ·-- convert
  unfold svConv at h
  try simp only [evR_eq, hgetR_eq, hsetR_eq, sgetR_eq, putR_eq, aslR_eq, apartsR_eq] at h
  split at h
  ·rename_i U k _ _ _ k0 n hU hD hx
   cases h
   simp only [aval, ev_ren, hT _ _ hU, hT _ _ hD, hx, Option.map_some, HV.ren]
   exact hr
  ·rename_i U _ _ _ k0 n hU hD hx
   cases h
   simp only [aval, ev_ren, hT _ _ hU, hT _ _ hD, hx, Option.map_some, HV.ren]
   exact hr
  ·rename_i U _ _ _ l hU hD hx
   cases h
   simp only [aval, ev_ren, hT _ _ hU, hT _ _ hD, hx, Option.map_some, HV.ren]
   exact hr
  ·cases h
 ·-- makeFunc
  unfold svFunc at h
  try simp only [evR_eq, hgetR_eq, hsetR_eq, sgetR_eq, putR_eq, aslR_eq, apartsR_eq] at h
  split at h
  ·rename_i fs cs hf hc
   cases h
   simp only [aval, evL_ren, hf, hc, Option.map_some]
   exact hr
  ·cases h
 ·-- fieldAddr
  unfold svFieldAddr at h
  try simp only [evR_eq, hgetR_eq, hsetR_eq, sgetR_eq, putR_eq, aslR_eq, apartsR_eq] at h
  split at h
  ·rename_i o U id ver off hF hx
   obtain ⟨hv, h⟩ := guardO_some h
   cases h
   simp only [aval, sField_sound hT hF, ev_ren, hx, Option.map_some, HV.ren]
   exact ⟨aliveB_sound hv, hr⟩
  ·rename_i o U cs off hF hx
   cases h
   simp only [aval, sField_sound hT hF, ev_ren, hx, Option.map_some, HV.ren]
   exact hr
  ·cases h
 ·-- field
  unfold svField at h
  try simp only [evR_eq, hgetR_eq, hsetR_eq, sgetR_eq, putR_eq, aslR_eq, apartsR_eq] at h
  split at h
  ·rename_i o U cs hF hx
   simp only [aval, sField_sound hT hF, ev_ren, hx, Option.map_some, HV.ren]
   exact sload_sound h hr
  ·cases h
 ·-- indexAddr
  unfold svIndexAddr at h
  try simp only [evR_eq, hgetR_eq, hsetR_eq, sgetR_eq, putR_eq, aslR_eq, apartsR_eq] at h
  split at h
  ·rename_i e _ _ _ k' k n cs kk j hU hE hx hi
   obtain ⟨hv, h⟩ := guardO_some h
   cases h
   simp only [aval, hT _ _ hU, sElem_sound hT hE, ev_ren, hx, hi, Option.map_some, HV.ren]
   obtain ⟨h1, h2, h3⟩ := of_decide_eq_true hv
   exact ⟨h1, h2, h3, hr⟩
  ·rename_i e _ _ _ k' id ver k off n kk j hU hE hx hi
   obtain ⟨hv, h⟩ := guardO_some h
   obtain ⟨ha, h⟩ := guardO_some h
   cases h
   simp only [aval, hT _ _ hU, sElem_sound hT hE, ev_ren, hx, hi, Option.map_some, HV.ren]
   obtain ⟨h1, h2, h3⟩ := of_decide_eq_true hv
   exact ⟨h1, h2, h3, aliveB_sound ha, hr⟩
  ·rename_i len e _ _ _ k' id ver off kk j hU hE hx hi
   obtain ⟨hv, h⟩ := guardO_some h
   obtain ⟨ha, h⟩ := guardO_some h
   cases h
   simp only [aval, hT _ _ hU, sElem_sound hT hE, ev_ren, hx, hi, Option.map_some, HV.ren]
   obtain ⟨h1, h2⟩ := of_decide_eq_true hv
   exact ⟨h1, h2, aliveB_sound ha, hr⟩
  ·rename_i len e _ _ _ k' cs off kk j hU hE hx hi
   obtain ⟨hv, h⟩ := guardO_some h
   cases h
   simp only [aval, hT _ _ hU, sElem_sound hT hE, ev_ren, hx, hi, Option.map_some, HV.ren]
   obtain ⟨h1, h2⟩ := of_decide_eq_true hv
   exact ⟨h1, h2, hr⟩
  ·cases h
 ·-- index
  unfold svIndex at h
  try simp only [evR_eq, hgetR_eq, hsetR_eq, sgetR_eq, putR_eq, aslR_eq, apartsR_eq] at h
  split at h
  ·rename_i _ _ _ l k j hU hx hi
   obtain ⟨hv, h⟩ := guardO_some h
   split at h
   ·rename_i b hb
    cases h
    simp only [aval, hT _ _ hU, ev_ren, hx, hi, Option.map_some, HV.ren, hb]
    exact ⟨of_decide_eq_true hv, hr⟩
   ·cases h
  ·rename_i len e _ _ _ cs k j hU hx hi
   obtain ⟨hv, h⟩ := guardO_some h
   split at h
   ·rename_i U hE
    simp only [aval, hT _ _ hU, ev_ren, hx, hi, Option.map_some, HV.ren, hT _ _ hE]
    obtain ⟨h1, h2⟩ := of_decide_eq_true hv
    exact ⟨h1, h2, sload_sound h hr⟩
   ·cases h
  ·cases h
 ·-- extract
  unfold svExtract at h
  try simp only [evR_eq, hgetR_eq, hsetR_eq, sgetR_eq, putR_eq, aslR_eq, apartsR_eq] at h
  split at h
  ·rename_i vs hx
   simp only [aval, ev_ren, hx, Option.map_some, HV.ren, renL_get, h]
   exact hr
  ·cases h
 ·-- slice
  unfold svSlice at h
  try simp only [evR_eq, hgetR_eq, hsetR_eq, sgetR_eq, putR_eq, aslR_eq, apartsR_eq] at h
  split at h
  ·rename_i _ _ _ l hU hx
   split at h
   ·rename_i a b ha hb
    obtain ⟨hv, h⟩ := guardO_some h
    cases h
    simp only [aval, hT _ _ hU, ev_ren, hx, Option.map_some, HV.ren, asl_ren, ha, hb]
    obtain ⟨h1, h2, h3⟩ := of_decide_eq_true hv
    exact ⟨h1, h2, h3, hr⟩
   ·cases h
  ·rename_i e _ _ _ k' k n cs hU hE hx
   split at h
   ·rename_i a b ha hb
    obtain ⟨hv, h⟩ := guardO_some h
    cases h
    simp only [aval, hT _ _ hU, sElem_sound hT hE, ev_ren, hx, Option.map_some, HV.ren, asl_ren, ha, hb]
    obtain ⟨h1, h2, h3, h4⟩ := of_decide_eq_true hv
    refine ⟨h1, h2, h3, h4, ?_⟩
    rw [← renL_take, ← renL_drop]
    exact hr
   ·cases h
  ·rename_i e _ _ _ k' id ver k off n hU hE hx
   split at h
   ·rename_i a b ha hb
    obtain ⟨hv, h⟩ := guardO_some h
    obtain ⟨hl, h⟩ := guardO_some h
    cases h
    simp only [aval, hT _ _ hU, sElem_sound hT hE, ev_ren, hx, Option.map_some, HV.ren, asl_ren, ha, hb]
    obtain ⟨h1, h2, h3, h4, h5⟩ := of_decide_eq_true hv
    exact ⟨h1, h2, h3, h4, h5, aliveB_sound hl, hr⟩
   ·cases h
  ·cases h
 ·-- call
  unfold svCall at h
  try simp only [evR_eq, hgetR_eq, hsetR_eq, sgetR_eq, putR_eq, aslR_eq, apartsR_eq] at h
  split at h
  ·rename_i c t x hc ht hx
   split at h
   ·rename_i _ _ _ l hU hl
    cases h
    simp only [aval, hc, ht, hx, hT _ _ hU, ev_ren, hl, Option.map_some, HV.ren]; exact hr
   ·rename_i e _ _ _ k n cs hU hl
    cases h
    simp only [aval, hc, ht, hx, hT _ _ hU, ev_ren, hl, Option.map_some, HV.ren]; exact hr
   ·rename_i e _ _ _ id ver k off n hU hl
    obtain ⟨hv, h⟩ := guardO_some h
    cases h
    simp only [aval, hc, ht, hx, hT _ _ hU, ev_ren, hl, Option.map_some, HV.ren]; exact ⟨aliveB_sound hv, hr⟩
   ·rename_i e _ _ _ hU hl
    cases h
    simp only [aval, hc, ht, hx, hT _ _ hU, ev_ren, hl, Option.map_some, HV.ren]; exact hr
   ·rename_i e _ _ _ hU hl
    cases h
    simp only [aval, hc, ht, hx, hT _ _ hU, ev_ren, hl, Option.map_some, HV.ren]; exact hr
   ·rename_i e _ _ _ _ id ver hU hl
    split at h
    ·rename_i ver' es hg
     obtain ⟨hv, h⟩ := guardO_some h
     cases h
     simp only [Bool.and_eq_true] at hv
     have hve := Nat.eq_of_beq_eq_true hv.1
     subst hve
     simp only [aval, hc, ht, hx, hT _ _ hU, ev_ren, hl, Option.map_some, HV.ren, hget_s ρ hg, AObj.ren, renE_len]
     exact ⟨trivial, Nat.le_of_ble_eq_true hv.2, hr⟩
    ·cases h
   ·cases h
  ·rename_i c x y hc hx
   split at h
   ·rename_i k a k' b ha hb
    obtain ⟨hv, h⟩ := guardO_some h
    cases h
    simp only [aval, hc, hx, ev_ren, ha, hb, Option.map_some, HV.ren]
    exact ⟨.inl trivial, of_decide_eq_true hv, hr⟩
   ·cases h
  ·rename_i c x y hc hx
   split at h
   ·rename_i k a k' b ha hb
    obtain ⟨hv, h⟩ := guardO_some h
    cases h
    simp only [aval, hc, hx, ev_ren, ha, hb, Option.map_some, HV.ren]
    exact ⟨.inr trivial, of_decide_eq_true hv, hr⟩
   ·cases h
  ·rename_i c x y z hc hx
   split at h
   ·rename_i k a k' b k'' d ha hb hd
    obtain ⟨hv, h⟩ := guardO_some h
    cases h
    simp only [aval, hc, hx, ev_ren, ha, hb, hd, Option.map_some, HV.ren]
    obtain ⟨h1, h2⟩ := of_decide_eq_true hv
    exact ⟨.inl trivial, h1, h2, hr⟩
   ·cases h
  ·rename_i c x y z hc hx
   split at h
   ·rename_i k a k' b k'' d ha hb hd
    obtain ⟨hv, h⟩ := guardO_some h
    cases h
    simp only [aval, hc, hx, ev_ren, ha, hb, hd, Option.map_some, HV.ren]
    obtain ⟨h1, h2⟩ := of_decide_eq_true hv
    exact ⟨.inr trivial, h1, h2, hr⟩
   ·cases h
  ·cases h
 ·cases h
end
end Go.AW
namespace Go.AW
open Go
set_option linter.unusedSimpArgs false
def LoopKeep (H H' : Heap) : Prop := ∀ id v st pend f n snap ps a b, hget H id = some (v, .loop st pend f n snap ps a b) → ∀ x, hget H' id = some x → ∃ st' pend', x = (v, .loop st' pend' f n snap ps a b)
theorem LoopKeep.refl (H : Heap) : LoopKeep H H := fun _ _ _ _ _ _ _ _ _ _ h x hx => by rw [h] at hx; cases hx; exact ⟨_, _, rfl⟩
theorem LoopKeep.set {H : Heap} {id v : Nat} {o : AObj} (h : ∀ v st pend f n snap ps a b, hget H id ≠ some (v, .loop st pend f n snap ps a b)) : LoopKeep H (hset H id v o) := by
 intro j u st pend f n snap ps a b hj x hx
 rw [hget_hset] at hx
 split at hx
 ·rename_i e; subst e; exact absurd hj (h _ _ _ _ _ _ _ _ _)
 ·rw [hj] at hx; cases hx; exact ⟨_, _, rfl⟩
theorem LoopKeep.setL {H : Heap} {id v : Nat} {st st' : LoopState} {pend pend' : Option Code} {f n : Nat} {snap : List (Nat × HV)} {ps : Array Tmp} {a b : Code}
  (h : hget H id = some (v, .loop st pend f n snap ps a b)) : LoopKeep H (hset H id v (.loop st' pend' f n snap ps a b)) := by
 intro j u st2 pend2 f2 n2 snap2 ps2 a2 b2 hj x hx
 rw [hget_hset] at hx
 split at hx
 ·rename_i e; subst e; rw [h] at hj; cases hj; cases hx; exact ⟨_, _, rfl⟩
 ·rw [hj] at hx; cases hx; exact ⟨_, _, rfl⟩
theorem LoopKeep.trans {H H1 H2 : Heap} (h : LoopKeep H H1) (h' : LoopKeep H1 H2) (hd : ∀ id x, hget H id = some x → ∀ y, hget H2 id = some y → ∃ z, hget H1 id = some z) : LoopKeep H H2 := by
 intro j u st pend f n snap ps a b hj x hx
 obtain ⟨z, hz⟩ := hd j _ hj x hx
 obtain ⟨st1, p1, rfl⟩ := h _ _ _ _ _ _ _ _ _ _ hj z hz
 exact h' _ _ _ _ _ _ _ _ _ _ hz x hx
def Back (n : Nat) (H H' : Heap) : Prop := ∀ id, id < n → ∀ y, hget H' id = some y → ∃ z, hget H id = some z
theorem Back.refl (n : Nat) (H : Heap) : Back n H H := fun _ _ y h => ⟨y, h⟩
theorem Back.trans {n m : Nat} {H H1 H2 : Heap} (h : Back n H H1) (hn : n ≤ m) (h' : Back m H1 H2) : Back n H H2 := fun id hid y hy => by
 obtain ⟨z, hz⟩ := h' id (by omega) y hy
 exact h id hid z hz
theorem Back.set {n id v : Nat} {H : Heap} {o : AObj} (h : n ≤ id ∨ ∃ x, hget H id = some x) : Back n H (hset H id v o) := fun j hj y hy => by
 rw [hget_hset] at hy
 split at hy
 ·rename_i e; subst e; exact h.elim (fun h => by omega) id
 ·exact ⟨y, hy⟩
theorem sch_lt {n id : Nat} {H : Heap} {x : Nat × AObj} (h : scH n H = true) (hg : hget H id = some x) : id < n := (sch_get (o := x.2) (v := x.1) h hg).1.1
theorem sch_fresh {n : Nat} {H : Heap} (h : scH n H = true) : hget H n = none := by
 cases hg : hget H n with
 | none => rfl
 | some x => exact absurd (sch_lt h hg) (by omega)
structure Step (n n' : Nat) (H H' : Heap) : Prop where
 le : n ≤ n'
 loop : LoopKeep H H'
 back : Back n H H'
theorem Step.refl (n : Nat) (H : Heap) : Step n n H H := ⟨Nat.le_refl _, LoopKeep.refl H, Back.refl n H⟩
theorem Step.trans {n n1 n2 : Nat} {H H1 H2 : Heap} (hs : scH n H = true) (h : Step n n1 H H1) (h' : Step n1 n2 H1 H2) : Step n n2 H H2 :=
 ⟨Nat.le_trans h.le h'.le, h.loop.trans h'.loop fun id x hx y hy => h'.back id (Nat.lt_of_lt_of_le (sch_lt hs hx) h.le) y hy, h.back.trans h.le h'.back⟩
inductive Task where
 | code (top : Bool) (N : Nat) (c : Code) (s : AS) (n : Nat)
 | call (f : FuncId) (args : List HV) (H : Heap) (n : Nat)
inductive Out where
 | code (e : Exit) (s : AS) (n : Nat)
 | call (rv : HV) (H : Heap) (n : Nat)
def Sem (P : Program) : Task → Out → Prop
 | .code top N c s n, .code e s' n' => s.sc n = true → s'.sc n' = true ∧ Step n n' s.heap s'.heap ∧
   ∀ (ρ : Nat → Nat) (ro : Option Nat) (Q : Exit → AS → Prop), (top = true → ro = none) → (∀ ρ', Agree n ρ ρ' → Q e (s'.ren ρ')) → AW P ro N c Q (s.ren ρ)
 | .call f args H n, .call rv H' n' => scL n args = true → scH n H = true → rv.sc n' = true ∧ scH n' H' = true ∧ Step n n' H H' ∧
   ∀ (ρ : Nat → Nat) (K : HV → Heap → Prop), (∀ ρ', Agree n ρ ρ' → K (rv.ren ρ') (renH ρ' H')) → ACall P f (renL ρ args) (renH ρ H) K
 | _, _ => False
def Good (P : Program) (r : Task → Option Out) : Prop := ∀ t o, r t = some o → Sem P t o
def OpOk (P : Program) (N : Nat) (o : Oper) (s : AS) (n : Nat) (s' : AS) (n' : Nat) : Prop := s'.sc n' = true ∧ Step n n' s.heap s'.heap ∧
 ∀ (ρ : Nat → Nat) (ro : Option Nat) (K : AS → Prop), (∀ ρ', Agree n ρ ρ' → K (s'.ren ρ')) → AOp P ro N o K (s.ren ρ)
noncomputable def fin (s : AS) (n : Nat) (d : Option Tmp) (h : HV) : Option (AS × Nat) := guardO (h.sc n) (some (s.putR d h, n))
noncomputable def new (s : AS) (n : Nat) (d : Option Tmp) (id : Nat) (o : AObj) (h : HV) : Option (AS × Nat) := guardO (o.sc n) (some (({ s with heap := hsetR s.heap id n o } : AS).putR d h, n + 1))
section
variable {P : Program} {N n n' : Nat} {o : Oper} {s s' : AS}
theorem sc_heap_of (hs : s.sc n = true) : scH n s.heap = true := by
 simp only [AS.sc, Bool.and_eq_true] at hs; exact hs.2
theorem sc_slots_of (hs : s.sc n = true) : scS n s.slots = true := by
 simp only [AS.sc, Bool.and_eq_true] at hs; exact hs.1
theorem put_heap' (s : AS) (d : Option Tmp) (h : HV) : (s.put d h).heap = s.heap := by cases d <;> rfl
theorem fin_ok {h : HV} (hs : s.sc n = true) (he : fin s n o.dst h = some (s', n')) (hk : ∀ (ρ : Nat → Nat) (ro : Option Nat) (K : AS → Prop), K ((s.ren ρ).put o.dst (h.ren ρ)) → AOp P ro N o K (s.ren ρ)) : OpOk P N o s n s' n' := by
 unfold fin at he
 rw [putR_eq] at he
 obtain ⟨h1, h2⟩ := guardO_some he
 cases h2
 refine ⟨sc_put hs h1, by rw [put_heap']; exact Step.refl _ _, fun ρ ro K hK => hk ρ ro K ?_⟩
 rw [← ren_put]
 exact hK ρ (Agree.refl _ _)
theorem new_ok {id : Nat} {ob : AObj} {h : HV} (hs : s.sc n = true) (hid : id = n ∨ ∃ v k e cs, hget s.heap id = some (v, .arr k e cs)) (hh : h.sc (n + 1) = true) (he : new s n o.dst id ob h = some (s', n'))
  (hk : ∀ (ρ : Nat → Nat) (ro : Option Nat) (K : AS → Prop), (∀ ver, K ((⟨(s.ren ρ).slots, hset (s.ren ρ).heap id ver (ob.ren ρ)⟩ : AS).put o.dst (h.ren (upd ρ n ver)))) → AOp P ro N o K (s.ren ρ)) : OpOk P N o s n s' n' := by
 unfold new at he
 rw [putR_eq, hsetR_eq] at he
 obtain ⟨h1, h2⟩ := guardO_some he
 cases h2
 have hsh := sc_heap_of hs
 have hidn : id < n + 1 := by
  rcases hid with rfl | ⟨v, k, e, cs, hg⟩
  ·omega
  ·have := sch_lt hsh hg; omega
 refine ⟨sc_put (sc_heap (AS.sc_mono (Nat.le_succ n) s hs) hidn (by omega) (AObj.sc_mono (Nat.le_succ n) ob h1)) hh, ?_, fun ρ ro K hK => hk ρ ro K fun ver => ?_⟩
 ·rw [put_heap']
  refine ⟨by omega, LoopKeep.set ?_, Back.set ?_⟩
  ·rcases hid with rfl | ⟨v, k, e, cs, hg⟩
   ·rw [sch_fresh hsh]; intros; simp
   ·rw [hg]; intros; simp
  ·rcases hid with rfl | ⟨v, k, e, cs, hg⟩
   ·exact .inl (Nat.le_refl _)
   ·exact .inr ⟨_, hg⟩
 ·have := hK (upd ρ n ver) (Agree.upd n ver ρ)
  rw [ren_put] at this
  have e : (⟨s.slots, hset s.heap id n ob⟩ : AS).ren (upd ρ n ver) = ⟨(s.ren ρ).slots, hset (s.ren ρ).heap id ver (ob.ren ρ)⟩ := by
   simp only [AS.ren, renH_set, upd_at]
   rw [← renS_agree (Agree.upd n ver ρ) _ (sc_slots_of hs), ← renH_agree (Agree.upd n ver ρ) _ hsh, ← AObj.ren_agree (Agree.upd n ver ρ) _ h1]
  rw [e] at this
  exact this
end
theorem aparts_ren (ρ : Nat → Nat) (s : AS) : ∀ ps : List (Nat × Operand), aparts (s.ren ρ) ps = (aparts s ps).map (renS ρ)
 | [] => rfl
 | p :: ps => by
  have ih := aparts_ren ρ s ps
  unfold aparts at ih ⊢
  simp only [List.mapM_cons, Option.pure_def, Option.bind_eq_bind]
  rw [ih, ev_ren]
  cases s.ev p.2 with
  | none => rfl
  | some h =>
   simp only [Option.map_some, Option.bind_some]
   cases List.mapM (fun p => Option.map (fun h => (p.fst, h)) (s.ev p.snd)) ps with
   | none => rfl
   | some qs => rfl
theorem afill_ren (ρ : Nat → Nat) (place : Nat → Option (Nat × Nat)) : ∀ (qs : List (Nat × HV)) (cells : List HV), afill place (renS ρ qs) (renL ρ cells) = (afill place qs cells).map (renL ρ)
 | [], cells => rfl
 | (i, h) :: qs, cells => by
  simp only [renS, afill, cells_ren]
  cases place i with
  | none => rfl
  | some p =>
   obtain ⟨off, size⟩ := p
   cases h.cells? with
   | none => rfl
   | some cs =>
    simp only [Option.map_some, renL_len]
    split
    ·rw [← renL_splice, afill_ren ρ place qs]
    ·rfl
theorem consts_ren (ρ : Nat → Nat) : ∀ (vs : List Value) (hs : List HV), vs.mapM constHV = some hs → renL ρ hs = hs
 | [], hs, h => by simp at h; subst h; rfl
 | v :: vs, hs, h => by
  simp only [List.mapM_cons, Option.pure_def, Option.bind_eq_bind, Option.bind_eq_some_iff] at h
  obtain ⟨c, hc, ds, hd, he⟩ := h
  cases he
  have h1 := constHV_ren ρ v
  rw [hc] at h1
  simp only [Option.map_some, Option.some.injEq] at h1
  simp only [renL, h1, consts_ren ρ vs ds hd]
theorem zcells_ren (ρ : Nat → Nat) {z : Value} {zs : List HV} (h : zcells z = some zs) : renL ρ zs = zs := by
 have one : ∀ {v : Value}, (match constHV v with
   | some h => if h.one then some [h] else none
   | none => none) = some zs → renL ρ zs = zs := fun {v} h => by
  have h1 := constHV_ren ρ v
  split at h
  ·rename_i c hc
   rw [hc] at h1
   simp only [Option.map_some, Option.some.injEq] at h1
   split at h
   ·cases h; simp only [renL, h1]
   ·cases h
  ·cases h
 unfold zcells at h
 split at h
 ·split at h
  ·rename_i hs hm
   split at h
   ·cases h; exact consts_ren ρ _ _ hm
   ·cases h
  ·cases h
 ·cases h
 ·exact one h
theorem zrep_ren (ρ : Nat → Nat) {zs : List HV} (h : renL ρ zs = zs) (n : Nat) : renL ρ (zrep zs n) = zrep zs n := by
 induction n with
 | zero => rfl
 | succ n ih =>
  simp only [zrep, List.replicate_succ, List.flatten_cons, renL_append, h] at ih ⊢
  rw [ih]
noncomputable def sslice (T : TypeId → Option TyI) (s : AS) (t : TypeId) (n : Nat) (ps : List (Nat × Operand)) : Option (Nat × TypeId × List HV) :=
 match T t with
 | some ⟨.slice e, _, _, _⟩ => match T e with
  | some U => match zcells U.zero, apartsR s ps with
   | some zs, some qs => guardO (Nat.beq zs.length U.size && Nat.ble (n * U.size) 16777216) (match afill (fun i => some (i * U.size, U.size)) qs (zrep zs n) with
    | some cs => some (U.size, e, cs)
    | none => none)
   | _, _ => none
  | none => none
 | _ => none
def sPlaces (T : TypeId → Option TyI) : List Field → Option (List (Nat × Nat))
 | [] => some []
 | f :: fs => match T f.type, sPlaces T fs with
  | some U, some l => some ((f.offset, U.size) :: l)
  | _, _ => none
noncomputable def sbuild (T : TypeId → Option TyI) (s : AS) (t : TypeId) (ps : List (Nat × Operand)) : Option HV :=
 match T t with
 | some ⟨.struct fs, _, _, z⟩ => match sPlaces T fs.toList, zcells z, apartsR s ps with
  | some pl, some zs, some qs => match afill (fun i => pl[i]?) qs zs with
   | some cs => some (.agg cs)
   | none => none
  | _, _, _ => none
 | _ => none
noncomputable def ssrc (T : TypeId → Option TyI) (s : AS) (xt : TypeId) (k : Nat) (x : HV) : Option (Nat × List HV) :=
 match T xt, x with
 | some ⟨.slice _, _, _, _⟩, .sl k' m cs => guardO (Nat.beq k' k) (some (m, cs))
 | some ⟨.slice _, _, _, _⟩, .ar id ver k' off m => match hgetR s.heap id with
  | some (ver', .arr _ _ cs) => guardO (Nat.beq ver ver' && (Nat.beq k' k && Nat.ble (off + m * k) cs.length)) (some (m, (cs.drop off).take (m * k)))
  | _ => none
 | some ⟨.slice _, _, _, _⟩, .v (.slice none 0 0) => some (0, [])
 | some ⟨.string, _, _, _⟩, .str l => guardO (Nat.beq k 1) (some (l.length, l.map fun b => .int .u8 b.toNat))
 | _, _ => none
noncomputable def sbase (s : AS) (k : Nat) (e : TypeId) (x : HV) : Option (Nat × List HV) :=
 match x with
 | .v (.slice none 0 0) => some (0, [])
 | .ar id ver k' off n => match hgetR s.heap id with
  | some (ver', .arr _ e' cs) => guardO (Nat.beq ver ver' && (Nat.beq k' k && (Nat.beq e' e && (Nat.beq off 0 && Nat.ble (n * k) cs.length)))) (some (n, cs.take (n * k)))
  | _ => none
 | _ => none
section
variable {P : Program} {T : TypeId → Option TyI} {s : AS} {ρ : Nat → Nat}
theorem sslice_sound (hT : TabOk P T) {t : TypeId} {n k : Nat} {e : TypeId} {ps : List (Nat × Operand)} {cs : List HV} {R : Nat → TypeId → List HV → Prop} (h : sslice T s t n ps = some (k, e, cs)) (hr : R k e (renL ρ cs)) : aslice P (s.ren ρ) t n ps R := by
 unfold sslice at h
 simp only [evR_eq, hgetR_eq, hsetR_eq, sgetR_eq, putR_eq, aslR_eq, apartsR_eq] at h
 split at h
 ·rename_i e' _ _ _ ht
  split at h
  ·rename_i U hU
   split at h
   ·rename_i zs qs hz hq
    obtain ⟨hv, h⟩ := guardO_some h
    simp only [Bool.and_eq_true] at hv
    split at h
    ·rename_i cs' hc
     cases h
     have hf := afill_ren ρ (fun i => some (i * U.size, U.size)) qs (zrep zs n)
     rw [hc, zrep_ren ρ (zcells_ren ρ hz)] at hf
     simp only [aslice, hT _ _ ht, hT _ _ hU, hz, aparts_ren, hq, Option.map_some, hf]
     exact ⟨Nat.eq_of_beq_eq_true hv.1, Nat.le_of_ble_eq_true hv.2, hr⟩
    ·cases h
   ·cases h
  ·cases h
 ·cases h
theorem sPlaces_sound (hT : TabOk P T) : ∀ {fs : List Field} {l : List (Nat × Nat)}, sPlaces T fs = some l → placesOf P fs = some l
 | [], l, h => h
 | f :: fs, l, h => by
  simp only [sPlaces] at h
  split at h
  ·rename_i U l' hU hl
   cases h
   simp [placesOf, hT _ _ hU, sPlaces_sound hT hl]
  ·cases h
theorem sbuild_sound (hT : TabOk P T) {t : TypeId} {ps : List (Nat × Operand)} {r : HV} {R : HV → Prop} (h : sbuild T s t ps = some r) (hr : R (r.ren ρ)) : abuild P (s.ren ρ) t ps R := by
 unfold sbuild at h
 simp only [evR_eq, hgetR_eq, hsetR_eq, sgetR_eq, putR_eq, aslR_eq, apartsR_eq] at h
 split at h
 ·rename_i fs _ _ z ht
  split at h
  ·rename_i pl zs qs hpl hz hq
   split at h
   ·rename_i cs hc
    cases h
    have hf := afill_ren ρ (fun i => pl[i]?) qs zs
    rw [hc, zcells_ren ρ hz] at hf
    simp only [abuild, hT _ _ ht, sPlaces_sound hT hpl, hz, aparts_ren, hq, Option.map_some, hf]
    exact hr
   ·cases h
  ·cases h
 ·cases h
theorem bytes_ren (ρ : Nat → Nat) (l : List UInt8) : renL ρ (l.map fun b => HV.int .u8 b.toNat) = l.map fun b => HV.int .u8 b.toNat := by
 induction l with
 | nil => rfl
 | cons b l ih => simp only [List.map_cons, renL, HV.ren, ih]
theorem ssrc_sound (hT : TabOk P T) {xt : TypeId} {k m : Nat} {x : HV} {cs : List HV} (h : ssrc T s xt k x = some (m, cs)) : asrc P (s.ren ρ) xt k (x.ren ρ) fun m' cs' => m' = m ∧ cs' = renL ρ cs := by
 unfold ssrc at h
 simp only [evR_eq, hgetR_eq, hsetR_eq, sgetR_eq, putR_eq, aslR_eq, apartsR_eq] at h
 split at h
 ·rename_i e _ _ _ k' m' cs' ht
  obtain ⟨hv, h⟩ := guardO_some h
  cases h
  simp only [asrc, hT _ _ ht, HV.ren]
  exact ⟨Nat.eq_of_beq_eq_true hv, trivial, trivial⟩
 ·rename_i e _ _ _ id ver k' off m' ht
  split at h
  ·rename_i ver' k2 e2 cs' hg
   obtain ⟨hv, h⟩ := guardO_some h
   cases h
   simp only [Bool.and_eq_true] at hv
   have h1 := Nat.eq_of_beq_eq_true hv.1
   subst h1
   simp only [asrc, hT _ _ ht, HV.ren, hget_s ρ hg, AObj.ren]
   refine ⟨trivial, Nat.eq_of_beq_eq_true hv.2.1, by rw [renL_len]; exact Nat.le_of_ble_eq_true hv.2.2, trivial, ?_⟩
   rw [renL_take, renL_drop]
  ·cases h
 ·rename_i e _ _ _ ht
  cases h
  simp only [asrc, hT _ _ ht, HV.ren]
  exact ⟨trivial, rfl⟩
 ·rename_i _ _ _ l ht
  obtain ⟨hv, h⟩ := guardO_some h
  cases h
  simp only [asrc, hT _ _ ht, HV.ren]
  exact ⟨Nat.eq_of_beq_eq_true hv, trivial, (bytes_ren ρ l).symm⟩
 ·cases h
theorem sbase_sound {e : TypeId} {k m : Nat} {x : HV} {cs : List HV} (h : sbase s k e x = some (m, cs)) : abase (s.ren ρ) k e (x.ren ρ) fun m' cs' => m' = m ∧ cs' = renL ρ cs := by
 unfold sbase at h
 simp only [evR_eq, hgetR_eq, hsetR_eq, sgetR_eq, putR_eq, aslR_eq, apartsR_eq] at h
 split at h
 ·cases h
  simp only [abase, HV.ren]
  exact ⟨trivial, rfl⟩
 ·rename_i id ver k' off m'
  split at h
  ·rename_i ver' k2 e2 cs' hg
   obtain ⟨hv, h⟩ := guardO_some h
   cases h
   simp only [Bool.and_eq_true] at hv
   have h1 := Nat.eq_of_beq_eq_true hv.1
   subst h1
   simp only [abase, HV.ren, hget_s ρ hg, AObj.ren]
   refine ⟨trivial, Nat.eq_of_beq_eq_true hv.2.1, Nat.eq_of_beq_eq_true hv.2.2.1, Nat.eq_of_beq_eq_true hv.2.2.2.1, by rw [renL_len]; exact Nat.le_of_ble_eq_true hv.2.2.2.2, trivial, ?_⟩
   rw [renL_take]
  ·cases h
 ·cases h
end
end Go.AW
namespace Go.AW
open Go
set_option linter.unusedSimpArgs false
structure Tabs where
 ty : TypeId → Option TyI
 fn : FuncId → Option Func
 ext : FuncId → List HV → Option HV
 /-- functions that sort in place: texts (true), numbers (false) -/
 sort : FuncId → Option Bool
 /-- the slots that are read behind a region: by the function's number of slots, and the region's number -/
 keep : Nat → Nat → Option (List Nat)
 /-- known results of functions that change nothing, at arguments that name no owned object -/
 extP : FuncId → List HV → Option HV := fun _ _ => none
structure Tabs.Ok (P : Program) (T : Tabs) : Prop where
 ty : TabOk P T.ty
 fn : ∀ f x, T.fn f = some x → P.funcs[f]? = some x ∧ (x.name == "runtime.NumGoroutine") = false
 ext : ∀ f args r, T.ext f args = some r → Fresh P f args r
 sortS : ∀ f, T.sort f = some true → SortsS P f
 sortI : ∀ f, T.sort f = some false → SortsI P f
 draw : P.follows .mixedOrders = true
 extP : ∀ f args r, T.extP f args = some r → Pure P f args (· = r) := by intro f args r h; cases h
def noIterB (id : Nat) : Heap → Bool
 | [] => true
 | (_, _, .iter m _ _ _) :: H => (!Nat.beq m id) && noIterB id H
 | _ :: H => noIterB id H
def unseen (seen : List (List UInt8)) : List (List UInt8 × HV) → List (List UInt8 × HV)
 | [] => []
 | (k, v) :: es => if k ∈ seen then unseen seen es else (k, v) :: unseen seen es
noncomputable def opBox (o : Oper) (s : AS) (n : Nat) (e : TypeId) (x : Operand) : Option (AS × Nat) := match s.evR x with
  | some hv => match hv.cells? with
   | some cs => new s n o.dst n (.arr cs.length e cs) (.ptr n n 0)
   | none => none
  | none => none
noncomputable def opAlloc (T : Tabs) (o : Oper) (s : AS) (n : Nat) (e : TypeId) : Option (AS × Nat) := match T.ty e with
  | some U => match zcells U.zero with
   | some zs => new s n o.dst n (.arr zs.length e zs) (.ptr n n 0)
   | none => none
  | none => none
noncomputable def opStore (T : Tabs) (o : Oper) (s : AS) (n : Nat) (t : TypeId) (x y : Operand) : Option (AS × Nat) := match s.evR x, s.evR y, T.ty t with
  | some (.ptr id ver off), some hv, some U => match hv.cells?, hgetR s.heap id with
   | some cs, some (ver', .arr k e xs) => guardO (Nat.beq ver ver' && (Nat.beq U.size cs.length && Nat.ble (off + cs.length) xs.length))
     (guardO (scL n (splice xs off cs)) (some (({ s with heap := hsetR s.heap id ver (.arr k e (splice xs off cs)) } : AS).putR o.dst (.v undef), n)))
   | _, _ => none
  | _, _, _ => none
noncomputable def opBuildSlice (T : Tabs) (o : Oper) (s : AS) (n : Nat) (t : TypeId) (m : Nat) (ps : Array (Nat × Operand)) : Option (AS × Nat) := guardO (Nat.ble m 16777216) (match sslice T.ty s t m ps.toList with
  | some (k, e, cs) => new s n o.dst n (.arr k e cs) (.ar n n k 0 m)
  | none => none)
noncomputable def opMakeSlice (T : Tabs) (o : Oper) (s : AS) (n : Nat) (t : TypeId) (x y : Operand) : Option (AS × Nat) := match T.ty t, s.evR x, s.evR y with
  | some ⟨.slice e, _, _, _⟩, some (.int .i64 l), some (.int .i64 c) => match T.ty e with
   | some Te => match zcells Te.zero with
    | some zs => guardO (Nat.beq zs.length Te.size && decide (0 ≤ l ∧ l ≤ c ∧ c * Te.bytes ≤ 281474976710656)) (new s n o.dst n (.arr Te.size e (zrep zs l.toNat)) (.ar n n Te.size 0 l.toNat))
    | none => none
   | none => none
  | _, _, _ => none
noncomputable def opAppend (T : Tabs) (o : Oper) (s : AS) (n : Nat) (aa : Array Operand) (ts : Array TypeId) : Option (AS × Nat) := match aa.toList, ts.toList with
  | [x, y], [t, xt] => match T.ty t, s.evR x, s.evR y with
   | some ⟨.slice e, _, _, _⟩, some hx, some hy => match T.ty e with
    | some Te => match sbase s Te.size e hx, ssrc T.ty s xt Te.size hy with
     | some (m, cs), some (m', ds) => guardO ((zcells Te.zero).any (fun zs => zs.length == Te.size) && (Nat.ble ((m + m') * Te.bytes) 140737488355328 && Nat.ble (m + m') maxLen))
       (new s n o.dst (baseId hx n) (.arr Te.size e (cs ++ ds)) (.ar (baseId hx n) n Te.size 0 (m + m')))
     | _, _ => none
    | none => none
   | _, _, _ => none
  | _, _ => none
noncomputable def opClear (T : Tabs) (o : Oper) (s : AS) (n : Nat) (aa : Array Operand) (ts : Array TypeId) : Option (AS × Nat) := match aa.toList, ts.toList with
  | [x], [t] => match T.ty t, s.evR x with
   | some ⟨.slice e, _, _, _⟩, some (.ar id ver _ off n') => match T.ty e, hgetR s.heap id with
    | some Te, some (ver', .arr k' e' xs) => match zcells Te.zero with
     | some [z] => guardO (Nat.beq ver ver' && Nat.ble (off + n') xs.length) (guardO (scL n (xs.take off ++ List.replicate n' z ++ xs.drop (off + n')))
       (some (({ s with heap := hsetR s.heap id ver (.arr k' e' (xs.take off ++ List.replicate n' z ++ xs.drop (off + n'))) } : AS).putR o.dst (.tup []), n)))
     | _ => none
    | _, _ => none
   | _, _ => none
  | _, _ => none
noncomputable def opCopy (T : Tabs) (o : Oper) (s : AS) (n : Nat) (aa : Array Operand) (ts : Array TypeId) : Option (AS × Nat) := match aa.toList, ts.toList with
  | [x, y], [t, xt] => match T.ty t, s.evR x, s.evR y with
   | some ⟨.slice e, _, _, _⟩, some (.ar id ver _ off n'), some hy => match T.ty e, hgetR s.heap id with
    | some Te, some (ver', .arr k' e' xs) => match ssrc T.ty s xt Te.size hy with
     | some (m, ds) => guardO (Nat.beq ver ver' && (!isStr hy && Nat.ble (off + n' * Te.size) xs.length)) (guardO (scL n (xs.take off ++ ds.take (min m n' * Te.size) ++ xs.drop (off + min m n' * Te.size)))
       (some (({ s with heap := hsetR s.heap id ver (.arr k' e' (xs.take off ++ ds.take (min m n' * Te.size) ++ xs.drop (off + min m n' * Te.size))) } : AS).putR o.dst (.int .i64 ((min m n' : Nat) : Int)), n)))
     | none => none
    | _, _ => none
   | _, _, _ => none
  | _, _ => none
noncomputable def opCall (r : Task → Option Out) (o : Oper) (s : AS) (n : Nat) (f : Operand) (aa : Array Operand) : Option (AS × Nat) := match s.evR f, aa.toList.mapM s.evR with
  | some (.fn (.func g) fs cs), some hs => guardO (scL n (fs ++ hs ++ cs)) (match r (.call g (fs ++ hs ++ cs) s.heap n) with
   | some (.call rv H n') => some (({ s with heap := H } : AS).putR o.dst rv, n')
   | _ => none)
  | some (.yl id ver), some hs => match hgetR s.heap id with
   | some (ver', .loop .ready none f m snap ps assign body) => guardO (Nat.beq ver ver' && (Nat.beq ps.size hs.length && (ps.toList.all fun p => Nat.blt p m))) (guardO (scS n (setPs snap ps.toList hs))
     (match r (.code false m assign ⟨setPs snap ps.toList hs, s.heap⟩ n) with
     | some (.code .normal s1 n1) => match hgetR s1.heap id with
      | some (_, .loop .ready none _ _ _ _ _ _) => match r (.code false m body { s1 with heap := hsetR s1.heap id ver (.loop .busy none f m snap ps assign body) } n1) with
       | some (.code e s2 n2) => match hgetR s2.heap id with
        | some (_, .loop .busy none _ _ _ _ _ _) => match e with
         | .normal => some (({ s with heap := hsetR s2.heap id ver (.loop .ready none f m snap ps assign body) } : AS).putR o.dst (.bool true), n2)
         | .ret => some (({ s with heap := hsetR s2.heap id ver (.loop .done (some .ret) f m snap ps assign body) } : AS).putR o.dst (.bool false), n2)
         | .exit i => some (({ s with heap := hsetR s2.heap id ver (.loop .done (some (.exit i)) f m snap ps assign body) } : AS).putR o.dst (.bool false), n2)
         | _ => none
        | _ => none
       | _ => none
      | _ => none
     | _ => none))
   | _ => none
  | _, _ => none
noncomputable def opBuild (T : Tabs) (o : Oper) (s : AS) (n : Nat) (t : TypeId) (ps : Array (Nat × Operand)) : Option (AS × Nat) := match sbuild T.ty s t ps.toList with
  | some r => fin s n o.dst r
  | none => none
noncomputable def opMapUpdate (T : Tabs) (o : Oper) (s : AS) (n : Nat) (t : TypeId) (m x y : Operand) : Option (AS × Nat) := match T.ty t, s.evR m, s.evR x, s.evR y with
  | some ⟨.map kt _, _, _, _⟩, some (.mp id ver), some (.str k), some hv => match T.ty kt, hgetR s.heap id with
   | some ⟨.string, _, _, _⟩, some (ver', .map es) => guardO (Nat.beq ver ver' && noIterB id s.heap) (guardO (scE n (mput k hv es))
     (some (({ s with heap := hsetR s.heap id ver (.map (mput k hv es)) } : AS).putR o.dst (.v undef), n)))
   | _, _ => none
  | _, _, _, _ => none
noncomputable def opLookup (T : Tabs) (o : Oper) (s : AS) (n : Nat) (t : TypeId) (m x : Operand) : Option (AS × Nat) := match T.ty t, s.evR m, s.evR x with
  | some ⟨.map kt et, _, _, _⟩, some (.mp id ver), some (.str k) => match T.ty kt, T.ty et, hgetR s.heap id with
   | some ⟨.string, _, _, _⟩, some Te, some (ver', .map es) => match constHV Te.zero with
    | some z => guardO (Nat.beq ver ver') (fin s n o.dst ((alook k es).getD z))
    | none => none
   | _, _, _ => none
  | _, _, _ => none
noncomputable def opRange (T : Tabs) (o : Oper) (s : AS) (n : Nat) (t : TypeId) (m : Operand) : Option (AS × Nat) := match T.ty t, s.evR m with
  | some ⟨.map _ _, _, _, _⟩, some (.mp mid mver) => match hgetR s.heap mid with
   | some (mver', .map _) => guardO (Nat.beq mver mver') (new s n o.dst n (.iter mid mver [] false) (.it n n))
   | _ => none
  | _, _ => none
noncomputable def opNext (o : Oper) (s : AS) (n : Nat) (x : Operand) : Option (AS × Nat) := match s.evR x with
  | some (.it id ver) => match hgetR s.heap id with
   | some (ver', .iter mid mver seen _) => match hgetR s.heap mid with
    | some (mver', .map es) => guardO (Nat.beq ver ver' && Nat.beq mver mver') (match unseen seen es with
     | [] => fin s n o.dst (.tup [.bool false])
     | [(k, v)] => guardO (v.sc n) (some (({ s with heap := hsetR s.heap id ver (.iter mid mver (k :: seen) true) } : AS).putR o.dst (.tup [.bool true, .str k, v]), n))
     | _ => none)
    | _ => none
   | _ => none
  | _ => none
noncomputable def opEntry (o : Oper) (s : AS) (n : Nat) (x : Operand) : Option (AS × Nat) := match s.evR x with
  | some (.it id ver) => match hgetR s.heap id with
   | some (ver', .iter mid mver (k :: _) true) => match hgetR s.heap mid with
    | some (mver', .map es) => guardO (Nat.beq ver ver' && Nat.beq mver mver') (match alook k es with
     | some v => fin s n o.dst (.tup [.str k, v])
     | none => none)
    | _ => none
   | _ => none
  | _ => none
noncomputable def sop (r : Task → Option Out) (T : Tabs) (o : Oper) (s : AS) (n : Nat) : Option (AS × Nat) :=
 match o.op with
 | .box e x => opBox o s n e x
 | .alloc e => opAlloc T o s n e
 | .store t x y => opStore T o s n t x y
 | .buildSlice t m ps => opBuildSlice T o s n t m ps
 | .makeSlice t x y => opMakeSlice T o s n t x y
 | .call ⟨.builtin .append, aa, ts⟩ => opAppend T o s n aa ts
 | .call ⟨.builtin .clear, aa, ts⟩ => opClear T o s n aa ts
 | .call ⟨.builtin .copy, aa, ts⟩ => opCopy T o s n aa ts
 | .call ⟨.value f, aa, _⟩ => opCall r o s n f aa
 | .build t ps => opBuild T o s n t ps
 | .makeMap _ none => new s n o.dst n (.map []) (.mp n n)
 | .mapUpdate t m x y => opMapUpdate T o s n t m x y
 | .insert t m x y => opMapUpdate T o s n t m x y
 | .lookup t m x false => opLookup T o s n t m x
 | .range t m => opRange T o s n t m
 | .next x false => opNext o s n x
 | .entry x => opEntry o s n x
 | op => match sval T.ty op s with
  | some h => fin s n o.dst h
  | none => none
theorem alook_ren (ρ : Nat → Nat) (k : List UInt8) : ∀ es, alook k (renE ρ es) = (alook k es).map (HV.ren ρ)
 | [] => rfl
 | (q, h) :: es => by
  simp only [renE, alook]
  split
  ·rfl
  ·exact alook_ren ρ k es
theorem mput_ren (ρ : Nat → Nat) (k : List UInt8) (h : HV) : ∀ es, renE ρ (mput k h es) = mput k (h.ren ρ) (renE ρ es)
 | [] => rfl
 | (q, g) :: es => by
  simp only [renE, mput]
  split
  ·rfl
  ·simp only [renE, mput_ren ρ k h es]
theorem noIterB_sound {id : Nat} {ρ : Nat → Nat} : ∀ {H : Heap}, noIterB id H = true → noIter id (renH ρ H)
 | [], _ => trivial
 | (i, v, .iter m mv seen cur) :: H, h => by
  simp only [noIterB, Bool.and_eq_true] at h
  refine ⟨fun e => ?_, noIterB_sound h.2⟩
  subst e
  simp at h
 | (i, v, .arr _ _ _) :: H, h => noIterB_sound (H := H) h
 | (i, v, .map _) :: H, h => noIterB_sound (H := H) h
 | (i, v, .loop _ _ _ _ _ _ _ _) :: H, h => noIterB_sound (H := H) h
 | (i, v, .kmap _) :: H, h => noIterB_sound (H := H) h
theorem mem_renE {ρ : Nat → Nat} {k : List UInt8} {v : HV} : ∀ {es : List (List UInt8 × HV)}, (k, v) ∈ renE ρ es → ∃ u, (k, u) ∈ es ∧ v = u.ren ρ
 | [], h => by cases h
 | (q, g) :: es, h => by
  simp only [renE, List.mem_cons] at h
  rcases h with h | h
  ·cases h; exact ⟨g, List.mem_cons_self .., rfl⟩
  ·obtain ⟨u, h1, h2⟩ := mem_renE h
   exact ⟨u, List.mem_cons_of_mem _ h1, h2⟩
theorem mem_renE' {ρ : Nat → Nat} {k : List UInt8} {u : HV} : ∀ {es : List (List UInt8 × HV)}, (k, u) ∈ es → (k, u.ren ρ) ∈ renE ρ es
 | [], h => by cases h
 | (q, g) :: es, h => by
  simp only [renE, List.mem_cons] at h ⊢
  rcases h with h | h
  ·cases h; exact .inl rfl
  ·exact .inr (mem_renE' h)
theorem mem_unseen {seen : List (List UInt8)} {k : List UInt8} {v : HV} : ∀ {es : List (List UInt8 × HV)}, (k, v) ∈ unseen seen es ↔ (k, v) ∈ es ∧ k ∉ seen
 | [] => by simp [unseen]
 | (q, g) :: es => by
  simp only [unseen]
  split
  ·rename_i hq
   rw [mem_unseen (es := es)]
   simp only [List.mem_cons]
   constructor
   ·exact fun h => ⟨.inr h.1, h.2⟩
   ·rintro ⟨h | h, h2⟩
    ·cases h; exact absurd hq h2
    ·exact ⟨h, h2⟩
  ·rename_i hq
   simp only [List.mem_cons, mem_unseen (es := es)]
   constructor
   ·rintro (h | h)
    ·cases h; exact ⟨.inl rfl, hq⟩
    ·exact ⟨.inr h.1, h.2⟩
   ·rintro ⟨h | h, h2⟩
    ·exact .inl h
    ·exact .inr ⟨h, h2⟩
section
variable {P : Program} {T : Tabs} {N n n' : Nat} {o : Oper} {s s' : AS} {r : Task → Option Out}
theorem set_ok {id ver : Nat} {x ob : AObj} {h : HV} (hs : s.sc n = true) (hg : hget s.heap id = some (ver, x)) (hx : ∀ st pend f n snap ps a b, x ≠ .loop st pend f n snap ps a b) (ho : ob.sc n = true) (hh : h.sc n = true)
  (hk : ∀ (ρ : Nat → Nat) (ro : Option Nat) (K : AS → Prop), K ((⟨(s.ren ρ).slots, hset (s.ren ρ).heap id (ρ ver) (ob.ren ρ)⟩ : AS).put o.dst (h.ren ρ)) → AOp P ro N o K (s.ren ρ)) :
  OpOk P N o s n (({ s with heap := hset s.heap id ver ob } : AS).put o.dst h) n := by
 have hl := sch_get (sc_heap_of hs) hg
 refine ⟨sc_put (sc_heap hs hl.1.1 hl.1.2 ho) hh, ?_, fun ρ ro K hK => hk ρ ro K ?_⟩
 ·rw [put_heap']
  exact ⟨Nat.le_refl _, LoopKeep.set fun v st pend f n snap ps a b e => by rw [hg] at e; cases e; exact hx _ _ _ _ _ _ _ _ rfl, Back.set (.inr ⟨_, hg⟩)⟩
 ·have := hK ρ (Agree.refl _ _)
  rw [ren_put] at this
  simpa only [AS.ren, renH_set] using this
theorem evL_sc {xs : List Operand} {hs : List HV} (h : xs.mapM s.ev = some hs) (ρ : Nat → Nat) : xs.mapM (s.ren ρ).ev = some (renL ρ hs) := by rw [evL_ren, h]; rfl
theorem setPs_ren (ρ : Nat → Nat) : ∀ (ps : List Tmp) (snap : List (Nat × HV)) (hs : List HV), renS ρ (setPs snap ps hs) = setPs (renS ρ snap) ps (renL ρ hs)
 | [], snap, hs => by simp [setPs]
 | p :: ps, snap, [] => by simp [setPs, renL]
 | p :: ps, snap, h :: hs => by simp only [setPs, renL, setPs_ren ρ ps, renS_set]
theorem sval_ok (hT : T.Ok P) (hN : okd N o.dst = true) (hs : s.sc n = true) (h : (match sval T.ty o.op s with
  | some h => fin s n o.dst h
  | none => none) = some (s', n')) : OpOk P N o s n s' n' := by
 split at h
 ·rename_i hv hev
  exact fin_ok hs h fun ρ ro K hK => AOp.pure hN (sval_sound hT.ty hev hK)
 ·cases h
theorem yield_ok (hr : Good P r) (hN : okd N o.dst = true) (hs : s.sc n = true) {c : Call} {g : Operand} {id ver : Nat} {hs' : List HV} (hop : o.op = .call c) (hc : c.callee = .value g) (hg : s.ev g = some (.yl id ver)) (ha : c.args.toList.mapM s.ev = some hs')
    (h : (match hget s.heap id with
      | some (ver', .loop .ready none f m snap ps assign body) => guardO (Nat.beq ver ver' && (Nat.beq ps.size hs'.length && (ps.toList.all fun p => Nat.blt p m))) (guardO (scS n (setPs snap ps.toList hs'))
          (match r (.code false m assign ⟨setPs snap ps.toList hs', s.heap⟩ n) with
          | some (.code .normal s1 n1) => match hget s1.heap id with
            | some (_, .loop .ready none _ _ _ _ _ _) => match r (.code false m body { s1 with heap := hset s1.heap id ver (.loop .busy none f m snap ps assign body) } n1) with
              | some (.code e s2 n2) => match hget s2.heap id with
                | some (_, .loop .busy none _ _ _ _ _ _) => match e with
                  | .normal => some (({ s with heap := hset s2.heap id ver (.loop .ready none f m snap ps assign body) } : AS).put o.dst (.bool true), n2)
                  | .ret => some (({ s with heap := hset s2.heap id ver (.loop .done (some .ret) f m snap ps assign body) } : AS).put o.dst (.bool false), n2)
                  | .exit i => some (({ s with heap := hset s2.heap id ver (.loop .done (some (.exit i)) f m snap ps assign body) } : AS).put o.dst (.bool false), n2)
                  | _ => none
                | _ => none
              | _ => none
            | _ => none
          | _ => none))
      | _ => none) = some (s', n')) : OpOk P N o s n s' n' := by
  have hsh := sc_heap_of hs
  split at h
  · rename_i ver' f m snap ps assign body hgl
    replace h := guardO_some h
    obtain ⟨h1, h⟩ := h
    replace h := guardO_some h
    obtain ⟨h2, h⟩ := h
    simp only [Bool.and_eq_true, List.all_eq_true] at h1
    have hv := Nat.eq_of_beq_eq_true h1.1
    subst hv
    have hps := Nat.eq_of_beq_eq_true h1.2.1
    have hpm : ∀ p ∈ ps.toList, p < m := fun p hp => blt_lt (h1.2.2 p hp)
    have hlsc := sch_get hsh hgl
    split at h
    · rename_i s1 n1 hr1
      obtain ⟨hs1, st1, hw1⟩ := hr _ _ hr1 (by simp only [AS.sc, h2, hsh, Bool.and_self])
      split at h
      · rename_i v1 f1 m1 snap1 ps1 as1 bd1 hg1
        obtain ⟨_, _, he1⟩ := st1.loop _ _ _ _ _ _ _ _ _ _ hgl _ hg1
        cases he1
        have hlsc1 := sch_get (sc_heap_of hs1) hg1
        have hsb : ({ s1 with heap := hset s1.heap id ver (.loop .busy none f m snap ps assign body) } : AS).sc n1 = true := sc_heap hs1 hlsc1.1.1 hlsc1.1.2 hlsc1.2
        split at h
        · rename_i e s2 n2 hr2
          obtain ⟨hs2, st2, hw2⟩ := hr _ _ hr2 hsb
          have stb : Step n1 n1 s1.heap (hset s1.heap id ver (.loop .busy none f m snap ps assign body)) := ⟨Nat.le_refl _, LoopKeep.setL hg1, Back.set (.inr ⟨_, hg1⟩)⟩
          have st12 := (st1.trans hsh stb).trans hsh st2
          split at h
          · rename_i v2 f2 m2 snap2 ps2 as2 bd2 hg2
            obtain ⟨_, _, he2⟩ := st12.loop _ _ _ _ _ _ _ _ _ _ hgl _ hg2
            cases he2
            have hlsc2 := sch_get (sc_heap_of hs2) hg2
            -- what a round comes to
            have done : ∀ (st : LoopState) (pend : Option Code) (b : Bool), (∀ (ρ' : Nat → Nat) (K : HV → Heap → Prop) (e' : Exit), e' = e →
                  K (.bool b) (hset (s2.ren ρ').heap id (ρ' ver) (.loop st pend (ρ' f) m (renS ρ' snap) ps assign body)) → rndQ id (ρ' ver) (ρ' f) m (renS ρ' snap) ps assign body K e' (s2.ren ρ')) →
                OpOk P N o s n (({ s with heap := hset s2.heap id ver (.loop st pend f m snap ps assign body) } : AS).put o.dst (.bool b)) n2 := by
              intro st pend b hq
              have hsn : ({ s with heap := hset s2.heap id ver (.loop st pend f m snap ps assign body) } : AS).sc n2 = true := by
                have := scS_mono st12.le _ (sc_slots_of hs)
                have h3 := scH_set _ id ver (.loop st pend f m snap ps assign body) (sc_heap_of hs2) hlsc2.1.1 hlsc2.1.2 hlsc2.2
                simp only [AS.sc, this, h3, Bool.and_self]
              refine ⟨sc_put hsn rfl, ?_, fun ρ ro K hK => ?_⟩
              · rw [put_heap']
                exact st12.trans hsh ⟨Nat.le_refl _, LoopKeep.setL hg2, Back.set (.inr ⟨_, hg2⟩)⟩
              · have hg' : (s.ren ρ).ev g = some (.yl id (ρ ver)) := by rw [ev_ren, hg]; rfl
                refine AOp.yield hop hc hN hg' (evL_sc ha ρ) ?_
                refine ⟨ρ f, m, renS ρ snap, ps, assign, body, hget_s ρ hgl, by rw [renL_len]; exact hps, hpm, fun l => ?_⟩
                have e0 : (⟨setPs (renS ρ snap) ps.toList (renL ρ hs'), (s.ren ρ).heap⟩ : AS) = (⟨setPs snap ps.toList hs', s.heap⟩ : AS).ren ρ := by simp only [AS.ren, setPs_ren]
                rw [e0]
                refine hw1 ρ (some l) _ (fun h => by cases h) fun ρ1 ha1 => ⟨rfl, ?_, ?_⟩
                · have := hget_s ρ1 hg1
                  simp only [AObj.ren] at this
                  rw [this, ha1 ver hlsc.1.2]
                  have h4 := hlsc.2
                  simp only [AObj.sc, Bool.and_eq_true] at h4
                  rw [ha1 f (blt_lt h4.1), renS_agree ha1 _ h4.2]
                · have h4 := hlsc.2
                  simp only [AObj.sc, Bool.and_eq_true] at h4
                  have e1 : ({ s1.ren ρ1 with heap := hset (s1.ren ρ1).heap id (ρ ver) (.loop .busy none (ρ f) m (renS ρ snap) ps assign body) } : AS) = ({ s1 with heap := hset s1.heap id ver (.loop .busy none f m snap ps assign body) } : AS).ren ρ1 := by
                    simp only [AS.ren, renH_set, AObj.ren]
                    rw [ha1 ver hlsc.1.2, ha1 f (blt_lt h4.1), renS_agree ha1 _ h4.2]
                  rw [e1]
                  refine hw2 ρ1 (some l) _ (fun h => by cases h) fun ρ2 ha2 => ?_
                  have ha02 : Agree n ρ ρ2 := ha1.trans st1.le ha2
                  rw [ha02 ver hlsc.1.2, ha02 f (blt_lt h4.1), renS_agree ha02 _ h4.2]
                  refine hq ρ2 _ e rfl ?_
                  have := hK ρ2 ha02
                  rw [ren_put] at this
                  have e2 : ({ s with heap := hset s2.heap id ver (.loop st pend f m snap ps assign body) } : AS).ren ρ2 = { s.ren ρ with heap := hset (s2.ren ρ2).heap id (ρ2 ver) (.loop st pend (ρ2 f) m (renS ρ2 snap) ps assign body) } := by
                    simp only [AS.ren, renH_set, AObj.ren]
                    rw [renS_agree ha02 _ (sc_slots_of hs)]
                  rw [e2] at this
                  exact this
            have hgb : ∀ ρ' : Nat → Nat, hget (s2.ren ρ').heap id = some (ρ' ver, .loop .busy none (ρ' f) m (renS ρ' snap) ps assign body) := fun ρ' => hget_s ρ' hg2
            split at h
            · cases h
              exact done _ _ _ fun ρ' K e' he hK => by subst he; exact ⟨hgb ρ', hK⟩
            · cases h
              exact done _ _ _ fun ρ' K e' he hK => by subst he; exact ⟨hgb ρ', hK⟩
            · cases h
              exact done _ _ _ fun ρ' K e' he hK => by subst he; exact ⟨hgb ρ', hK⟩
            · cases h
          · cases h
        · cases h
      · cases h
    · cases h
  · cases h
theorem sop_ok (hT : T.Ok P) (hr : Good P r) (hN : okd N o.dst = true) (hs : s.sc n = true) (h : sop r T o s n = some (s', n')) : OpOk P N o s n s' n' := by
 have hsh := sc_heap_of hs
 have self : ∀ m, Nat.blt m (m + 1) = true := fun m => by simp [Nat.blt_eq]
 unfold sop at h
 split at h
 ·-- box
  rename_i e x hop
  unfold opBox at h
  try simp only [evR_eq, hgetR_eq, hsetR_eq, sgetR_eq, putR_eq, aslR_eq, apartsR_eq] at h
  split at h
  ·rename_i hv hx
   split at h
   ·rename_i cs hcs
    refine new_ok (ob := .arr cs.length e cs) (h := .ptr n n 0) hs (.inl rfl) (self n) h fun ρ ro K hK => ?_
    have h1 : (s.ren ρ).ev x = some (hv.ren ρ) := by rw [ev_ren, hx]; rfl
    have h2 : (hv.ren ρ).cells? = some (renL ρ cs) := by rw [cells_ren, hcs]; rfl
    refine AOp.boxM n hop hN h1 h2 fun ver => ?_
    have := hK ver
    simp only [HV.ren, upd_at, AObj.ren] at this
    rw [renL_len]
    exact this
   ·cases h
  ·cases h
 ·-- alloc
  rename_i e hop
  unfold opAlloc at h
  try simp only [evR_eq, hgetR_eq, hsetR_eq, sgetR_eq, putR_eq, aslR_eq, apartsR_eq] at h
  split at h
  ·rename_i U hU
   split at h
   ·rename_i zs hz
    refine new_ok (ob := .arr zs.length e zs) (h := .ptr n n 0) hs (.inl rfl) (self n) h fun ρ ro K hK => ?_
    refine AOp.alloc n hop hN (hT.ty _ _ hU) hz fun ver => ?_
    have := hK ver
    simp only [HV.ren, upd_at, AObj.ren, zcells_ren ρ hz] at this
    exact this
   ·cases h
  ·cases h
 ·-- store
  rename_i t x y hop
  unfold opStore at h
  try simp only [evR_eq, hgetR_eq, hsetR_eq, sgetR_eq, putR_eq, aslR_eq, apartsR_eq] at h
  split at h
  ·rename_i id ver off hv U hx hy hU
   split at h
   ·rename_i cs ver' k e xs hcs hg
    replace h := guardO_some h
    obtain ⟨h1, h⟩ := h
    replace h := guardO_some h
    obtain ⟨h2, h⟩ := h
    cases h
    simp only [Bool.and_eq_true] at h1
    have hv' := Nat.eq_of_beq_eq_true h1.1
    subst hv'
    refine set_ok (x := .arr k e xs) hs hg (by intros; simp) h2 rfl fun ρ ro K hK => ?_
    have e1 : (s.ren ρ).ev x = some (.ptr id (ρ ver) off) := by rw [ev_ren, hx]; rfl
    have e2 : (s.ren ρ).ev y = some (hv.ren ρ) := by rw [ev_ren, hy]; rfl
    have e3 : (hv.ren ρ).cells? = some (renL ρ cs) := by rw [cells_ren, hcs]; rfl
    refine AOp.store hop hN e1 e2 e3 (hget_s ρ hg) (hT.ty _ _ hU) (by rw [renL_len]; exact Nat.eq_of_beq_eq_true h1.2.1) (by rw [renL_len, renL_len]; exact Nat.le_of_ble_eq_true h1.2.2) ?_
    simp only [AObj.ren, renL_splice] at hK
    exact hK
   ·cases h
  ·cases h
 ·-- buildSlice
  rename_i t m ps hop
  unfold opBuildSlice at h
  try simp only [evR_eq, hgetR_eq, hsetR_eq, sgetR_eq, putR_eq, aslR_eq, apartsR_eq] at h
  replace h := guardO_some h
  obtain ⟨h1, h⟩ := h
  split at h
  ·rename_i k e cs hsl
   refine new_ok (ob := .arr k e cs) (h := .ar n n k 0 m) hs (.inl rfl) (self n) h fun ρ ro K hK => ?_
   refine AOp.buildSliceM n hop hN (Nat.le_of_ble_eq_true h1) (sslice_sound hT.ty hsl fun ver => ?_)
   have := hK ver
   simp only [HV.ren, upd_at, AObj.ren] at this
   exact this
  ·cases h
 ·-- makeSlice
  rename_i t x y hop
  unfold opMakeSlice at h
  try simp only [evR_eq, hgetR_eq, hsetR_eq, sgetR_eq, putR_eq, aslR_eq, apartsR_eq] at h
  split at h
  ·rename_i e sz by' z l c hU hx hy
   split at h
   ·rename_i Te hTe
    split at h
    ·rename_i zs hz
     replace h := guardO_some h
     obtain ⟨h1, h⟩ := h
     simp only [Bool.and_eq_true] at h1
     obtain ⟨h2, h3, h4⟩ := of_decide_eq_true h1.2
     refine new_ok (ob := .arr Te.size e (zrep zs l.toNat)) (h := .ar n n Te.size 0 l.toNat) hs (.inl rfl) (self n) h fun ρ ro K hK => ?_
     have e1 : (s.ren ρ).ev x = some (.int .i64 l) := by rw [ev_ren, hx]; rfl
     have e2 : (s.ren ρ).ev y = some (.int .i64 c) := by rw [ev_ren, hy]; rfl
     refine AOp.makeSlice (k1 := .i64) (k2 := .i64) n hop hN (hT.ty _ _ hU) rfl (hT.ty _ _ hTe) hz (Nat.eq_of_beq_eq_true h1.1) e1 e2 h2 h3 h4 fun ver => ?_
     have := hK ver
     simp only [HV.ren, upd_at, AObj.ren, zrep_ren ρ (zcells_ren ρ hz)] at this
     exact this
    ·cases h
   ·cases h
  ·cases h
 ·-- append
  rename_i aa ts hop
  unfold opAppend at h
  try simp only [evR_eq, hgetR_eq, hsetR_eq, sgetR_eq, putR_eq, aslR_eq, apartsR_eq] at h
  split at h
  ·rename_i x y t xt ha ht
   split at h
   ·rename_i e sz by' z hx hy hU hex hey
    split at h
    ·rename_i Te hTe
     split at h
     ·rename_i m cs m' ds hb hsr
      replace h := guardO_some h
      obtain ⟨h1, h⟩ := h
      simp only [Bool.and_eq_true] at h1
      have has : aa = #[x, y] := Array.toList_inj.1 (by simpa using ha)
      have hts : ts = #[t, xt] := Array.toList_inj.1 (by simpa using ht)
      subst has hts
      have hid : baseId hx n = n ∨ ∃ v k e' cs', hget s.heap (baseId hx n) = some (v, .arr k e' cs') := by
       unfold sbase at hb
       rw [hgetR_eq] at hb
       split at hb
       ·exact .inl rfl
       ·rename_i id ver k' off n2
        split at hb
        ·rename_i ver' k2 e2 cs2 hg
         exact .inr ⟨_, _, _, _, hg⟩
        ·cases hb
       ·cases hb
      refine new_ok (ob := .arr Te.size e (cs ++ ds)) (h := .ar (baseId hx n) n Te.size 0 (m + m')) hs hid (self n) h fun ρ ro K hK => ?_
      have e1 : (s.ren ρ).ev x = some (hx.ren ρ) := by rw [ev_ren, hex]; rfl
      have e2 : (s.ren ρ).ev y = some (hy.ren ρ) := by rw [ev_ren, hey]; rfl
      have e3 : baseId (hx.ren ρ) n = baseId hx n := by cases hx <;> rfl
      refine AOp.append n hop hN (hT.ty _ _ hU) rfl (hT.ty _ _ hTe) h1.1 e1 e2 (sbase_sound hb) (ssrc_sound hT.ty hsr) (Nat.le_of_ble_eq_true h1.2.1) (Nat.le_of_ble_eq_true h1.2.2) fun ver => ?_
      rw [e3]
      have := hK ver
      simp only [HV.ren, upd_at, AObj.ren, renL_append] at this
      exact this
     ·cases h
    ·cases h
   ·cases h
  ·cases h
 ·-- clear
  rename_i aa ts hop
  unfold opClear at h
  try simp only [evR_eq, hgetR_eq, hsetR_eq, sgetR_eq, putR_eq, aslR_eq, apartsR_eq] at h
  split at h
  ·rename_i x t ha ht
   split at h
   ·rename_i e sz by' z id ver k off m hU hx
    split at h
    ·rename_i Te ver' k' e' xs hTe hg
     split at h
     ·rename_i z' hz
      replace h := guardO_some h
      obtain ⟨h1, h⟩ := h
      replace h := guardO_some h
      obtain ⟨h2, h⟩ := h
      cases h
      simp only [Bool.and_eq_true] at h1
      have hv' := Nat.eq_of_beq_eq_true h1.1
      subst hv'
      have has : aa = #[x] := Array.toList_inj.1 (by simpa using ha)
      have hts : ts = #[t] := Array.toList_inj.1 (by simpa using ht)
      subst has hts
      refine set_ok (x := .arr k' e' xs) hs hg (by intros; simp) h2 rfl fun ρ ro K hK => ?_
      have e1 : (s.ren ρ).ev x = some (.ar id (ρ ver) k off m) := by rw [ev_ren, hx]; rfl
      refine AOp.clear hop hN (hT.ty _ _ hU) rfl (hT.ty _ _ hTe) hz e1 (hget_s ρ hg) (by rw [renL_len]; exact Nat.le_of_ble_eq_true h1.2) ?_
      have hzr : z'.ren ρ = z' := by
       have := zcells_ren ρ hz
       simp only [renL, List.cons.injEq, and_true] at this
       exact this
      have hrr : renL ρ (List.replicate m z') = List.replicate m z' := by rw [renL_map, List.map_replicate, hzr]
      simp only [AObj.ren, renL_append, renL_take, renL_drop, hrr] at hK
      exact hK
     ·cases h
    ·cases h
   ·cases h
  ·cases h
 ·-- copy
  rename_i aa ts hop
  unfold opCopy at h
  try simp only [evR_eq, hgetR_eq, hsetR_eq, sgetR_eq, putR_eq, aslR_eq, apartsR_eq] at h
  split at h
  ·rename_i x y t xt ha ht
   split at h
   ·rename_i e sz by' z id ver k off m' hy hU hex hey
    split at h
    ·rename_i Te ver' k' e' xs hTe hg
     split at h
     ·rename_i m ds hsr
      replace h := guardO_some h
      obtain ⟨h1, h⟩ := h
      replace h := guardO_some h
      obtain ⟨h2, h⟩ := h
      cases h
      simp only [Bool.and_eq_true] at h1
      have hv' := Nat.eq_of_beq_eq_true h1.1
      subst hv'
      have has : aa = #[x, y] := Array.toList_inj.1 (by simpa using ha)
      have hts : ts = #[t, xt] := Array.toList_inj.1 (by simpa using ht)
      subst has hts
      refine set_ok (x := .arr k' e' xs) hs hg (by intros; simp) h2 rfl fun ρ ro K hK => ?_
      have e1 : (s.ren ρ).ev x = some (.ar id (ρ ver) k off m') := by rw [ev_ren, hex]; rfl
      have e2 : (s.ren ρ).ev y = some (hy.ren ρ) := by rw [ev_ren, hey]; rfl
      refine AOp.copy hop hN (hT.ty _ _ hU) rfl (hT.ty _ _ hTe) e1 e2 (fun l e => ?_) (hget_s ρ hg) (ssrc_sound hT.ty hsr) (by rw [renL_len]; exact Nat.le_of_ble_eq_true h1.2.2) ?_
      ·have h3 := h1.2.1
       cases hy <;> simp [HV.ren, isStr] at e h3
      ·simp only [AObj.ren, renL_append, renL_take, renL_drop] at hK
       exact hK
     ·cases h
    ·cases h
   ·cases h
  ·cases h
 ·-- call
  rename_i f aa ts hop
  unfold opCall at h
  try simp only [evR_eq, hgetR_eq, hsetR_eq, sgetR_eq, putR_eq, aslR_eq, apartsR_eq] at h
  split at h
  ·rename_i g fs cs hs' hf ha
   replace h := guardO_some h
   obtain ⟨h1, h⟩ := h
   split at h
   ·rename_i rv H n1 hr1
    cases h
    obtain ⟨h2, h3, st, hc⟩ := hr _ _ hr1 h1 hsh
    have hsl := sc_slots_of hs
    refine ⟨sc_put (by simp only [AS.sc, scS_mono st.le _ hsl, h3, Bool.and_self]) h2, by rw [put_heap']; exact st, fun ρ ro K hK => ?_⟩
    have e1 : (s.ren ρ).ev f = some (.fn (.func g) (renL ρ fs) (renL ρ cs)) := by rw [ev_ren, hf]; rfl
    refine AOp.call hop rfl hN e1 (evL_sc ha ρ) ?_
    rw [← renL_append, ← renL_append]
    refine hc ρ _ fun ρ' hag => ?_
    have := hK ρ' hag
    rw [ren_put] at this
    have e2 : ({ s with heap := H } : AS).ren ρ' = { s.ren ρ with heap := renH ρ' H } := by
     simp only [AS.ren]
     rw [renS_agree hag _ hsl]
    rw [e2] at this
    exact this
   ·cases h
  ·rename_i id ver hs' hf ha
   exact yield_ok hr hN hs hop rfl hf ha h
  ·cases h
 ·-- build
  rename_i t ps hop
  unfold opBuild at h
  try simp only [evR_eq, hgetR_eq, hsetR_eq, sgetR_eq, putR_eq, aslR_eq, apartsR_eq] at h
  split at h
  ·rename_i rv hb
   exact fin_ok hs h fun ρ ro K hK => AOp.build hop hN (sbuild_sound hT.ty hb hK)
  ·cases h
 ·-- makeMap
  rename_i t hop
  refine new_ok (ob := .map []) (h := .mp n n) hs (.inl rfl) (self n) h fun ρ ro K hK => ?_
  refine AOp.makeMap n hop hN fun ver => ?_
  have := hK ver
  simp only [HV.ren, upd_at, AObj.ren, renE] at this
  exact this
 ·-- mapUpdate
  rename_i t m x y hop
  unfold opMapUpdate at h
  try simp only [evR_eq, hgetR_eq, hsetR_eq, sgetR_eq, putR_eq, aslR_eq, apartsR_eq] at h
  split at h
  ·rename_i kt et sz by' z id ver k hv hU hm hx hy
   split at h
   ·rename_i sz2 by2 z2 ver' es hTk hg
    replace h := guardO_some h
    obtain ⟨h1, h⟩ := h
    replace h := guardO_some h
    obtain ⟨h2, h⟩ := h
    cases h
    simp only [Bool.and_eq_true] at h1
    have hv' := Nat.eq_of_beq_eq_true h1.1
    subst hv'
    refine set_ok (x := .map es) hs hg (by intros; simp) h2 rfl fun ρ ro K hK => ?_
    have e1 : (s.ren ρ).ev m = some (.mp id (ρ ver)) := by rw [ev_ren, hm]; rfl
    have e2 : (s.ren ρ).ev x = some (.str k) := by rw [ev_ren, hx]; rfl
    have e3 : (s.ren ρ).ev y = some (hv.ren ρ) := by rw [ev_ren, hy]; rfl
    refine AOp.mapUpdate (.inl hop) hN (hT.ty _ _ hU) rfl (hT.ty _ _ hTk) rfl e1 e2 e3 (hget_s ρ hg) (noIterB_sound h1.2) ?_
    simp only [AObj.ren, mput_ren] at hK
    exact hK
   ·cases h
  ·cases h
 ·-- insert
  rename_i t m x y hop
  unfold opMapUpdate at h
  try simp only [evR_eq, hgetR_eq, hsetR_eq, sgetR_eq, putR_eq, aslR_eq, apartsR_eq] at h
  split at h
  ·rename_i kt et sz by' z id ver k hv hU hm hx hy
   split at h
   ·rename_i sz2 by2 z2 ver' es hTk hg
    replace h := guardO_some h
    obtain ⟨h1, h⟩ := h
    replace h := guardO_some h
    obtain ⟨h2, h⟩ := h
    cases h
    simp only [Bool.and_eq_true] at h1
    have hv' := Nat.eq_of_beq_eq_true h1.1
    subst hv'
    refine set_ok (x := .map es) hs hg (by intros; simp) h2 rfl fun ρ ro K hK => ?_
    have e1 : (s.ren ρ).ev m = some (.mp id (ρ ver)) := by rw [ev_ren, hm]; rfl
    have e2 : (s.ren ρ).ev x = some (.str k) := by rw [ev_ren, hx]; rfl
    have e3 : (s.ren ρ).ev y = some (hv.ren ρ) := by rw [ev_ren, hy]; rfl
    refine AOp.mapUpdate (.inr hop) hN (hT.ty _ _ hU) rfl (hT.ty _ _ hTk) rfl e1 e2 e3 (hget_s ρ hg) (noIterB_sound h1.2) ?_
    simp only [AObj.ren, mput_ren] at hK
    exact hK
   ·cases h
  ·cases h
 ·-- lookup
  rename_i t m x hop
  unfold opLookup at h
  try simp only [evR_eq, hgetR_eq, hsetR_eq, sgetR_eq, putR_eq, aslR_eq, apartsR_eq] at h
  split at h
  ·rename_i kt et sz by' z id ver k hU hm hx
   split at h
   ·rename_i sz2 by2 z2 Te ver' es hTk hTe hg
    split at h
    ·rename_i z3 hz
     replace h := guardO_some h
     obtain ⟨h1, h⟩ := h
     have hv' := Nat.eq_of_beq_eq_true h1
     subst hv'
     refine fin_ok hs h fun ρ ro K hK => ?_
     have e1 : (s.ren ρ).ev m = some (.mp id (ρ ver)) := by rw [ev_ren, hm]; rfl
     have e2 : (s.ren ρ).ev x = some (.str k) := by rw [ev_ren, hx]; rfl
     refine AOp.lookup hop hN (hT.ty _ _ hU) rfl (hT.ty _ _ hTk) rfl (hT.ty _ _ hTe) hz e1 e2 (hget_s ρ hg) ?_
     rw [alook_ren]
     have h5 := constHV_ren ρ Te.zero
     rw [hz] at h5
     simp only [Option.map_some, Option.some.injEq] at h5
     cases hl : alook k es with
     | none => rw [hl] at hK; simp only [Option.getD_none, h5, Option.map_none] at hK ⊢; exact hK
     | some q => rw [hl] at hK; exact hK
    ·cases h
   ·cases h
  ·cases h
 ·-- range
  rename_i t m hop
  unfold opRange at h
  try simp only [evR_eq, hgetR_eq, hsetR_eq, sgetR_eq, putR_eq, aslR_eq, apartsR_eq] at h
  split at h
  ·rename_i kt et sz by' z mid mver hU hm
   split at h
   ·rename_i mver' es hg
    replace h := guardO_some h
    obtain ⟨h1, h⟩ := h
    have hv' := Nat.eq_of_beq_eq_true h1
    subst hv'
    have hlt := sch_get hsh hg
    refine new_ok (ob := .iter mid mver [] false) (h := .it n n) hs (.inl rfl) (self n) h fun ρ ro K hK => ?_
    have e1 : (s.ren ρ).ev m = some (.mp mid (ρ mver)) := by rw [ev_ren, hm]; rfl
    refine AOp.range n hop hN (hT.ty _ _ hU) rfl e1 (hget_s ρ hg) (by have := hlt.1.1; omega) fun ver => ?_
    have := hK ver
    simp only [HV.ren, upd_at, AObj.ren] at this
    exact this
   ·cases h
  ·cases h
 ·-- next
  rename_i x hop
  unfold opNext at h
  try simp only [evR_eq, hgetR_eq, hsetR_eq, sgetR_eq, putR_eq, aslR_eq, apartsR_eq] at h
  split at h
  ·rename_i id ver hx
   split at h
   ·rename_i ver' mid mver seen cur hg
    split at h
    ·rename_i mver' es hgm
     replace h := guardO_some h
     obtain ⟨h1, h⟩ := h
     simp only [Bool.and_eq_true] at h1
     have hv' := Nat.eq_of_beq_eq_true h1.1
     subst hv'
     have hv' := Nat.eq_of_beq_eq_true h1.2
     subst hv'
     split at h
     ·rename_i hu
      refine fin_ok hs h fun ρ ro K hK => ?_
      have e1 : (s.ren ρ).ev x = some (.it id (ρ ver)) := by rw [ev_ren, hx]; rfl
      refine AOp.next hop hN e1 (hget_s ρ hg) (hget_s ρ hgm) (fun _ => hK) fun k v hkv hks => ?_
      obtain ⟨u, hu1, _⟩ := mem_renE hkv
      have := mem_unseen.2 ⟨hu1, hks⟩
      rw [hu] at this
      cases this
     ·rename_i k v hu
      replace h := guardO_some h
      obtain ⟨h2, h⟩ := h
      cases h
      have hlm := sch_get hsh hgm
      refine set_ok (x := .iter mid mver seen cur) hs hg (by intros; simp) (by simp only [AObj.sc]; simpa [Nat.blt_eq] using hlm.1.2) (by simp only [HV.sc, scL, h2, Bool.and_self]) fun ρ ro K hK => ?_
      have e1 : (s.ren ρ).ev x = some (.it id (ρ ver)) := by rw [ev_ren, hx]; rfl
      refine AOp.next hop hN e1 (hget_s ρ hg) (hget_s ρ hgm) (fun hall => ?_) fun k' v' hkv hks => ?_
      ·have hm : (k, v) ∈ unseen seen es := by rw [hu]; exact List.mem_cons_self ..
       obtain ⟨h3, h4⟩ := mem_unseen.1 hm
       exact absurd (hall _ (mem_renE' h3)) h4
      ·obtain ⟨u, hu1, rfl⟩ := mem_renE hkv
       have := mem_unseen.2 ⟨hu1, hks⟩
       rw [hu] at this
       simp only [List.mem_singleton] at this
       cases this
       exact hK
     ·cases h
    ·cases h
   ·cases h
  ·cases h
 ·-- entry
  rename_i x hop
  unfold opEntry at h
  try simp only [evR_eq, hgetR_eq, hsetR_eq, sgetR_eq, putR_eq, aslR_eq, apartsR_eq] at h
  split at h
  ·rename_i id ver hx
   split at h
   ·rename_i ver' mid mver k seen hg
    split at h
    ·rename_i mver' es hgm
     replace h := guardO_some h
     obtain ⟨h1, h⟩ := h
     simp only [Bool.and_eq_true] at h1
     have hv' := Nat.eq_of_beq_eq_true h1.1
     subst hv'
     have hv' := Nat.eq_of_beq_eq_true h1.2
     subst hv'
     split at h
     ·rename_i v hl
      refine fin_ok hs h fun ρ ro K hK => ?_
      have e1 : (s.ren ρ).ev x = some (.it id (ρ ver)) := by rw [ev_ren, hx]; rfl
      have e2 : alook k (renE ρ es) = some (v.ren ρ) := by rw [alook_ren, hl]; rfl
      exact AOp.entry hop hN e1 (hget_s ρ hg) (hget_s ρ hgm) e2 hK
     ·cases h
    ·cases h
   ·cases h
  ·cases h
 ·exact sval_ok hT hN hs h
end
end Go.AW
